/- The contracts of package fds's functions, over the plain model. -/
import Derived.Test.YtmgalnkcpolafaaDoorFdHeap
import Derived.Handy
namespace Go.Proofs.YtmgalnkcpolafaaDoor
open Go.RowKit

set_option maxRecDepth 100000 in
theorem fd_new (w : World) (B : Nat) (hB : B ≤ w.heap.size) : Calls Tryd.prog 14 #[] w fun e w' => e = .returned (.pointer (some ⟨w.heap.size, 0, none⟩)) ∧ FdT B w' w.heap.size Fd.new ∧ Fr [] w w' := by
  go_enter Tryd.func14, Tryd.ntmps14
  go_wp2
  go_ret
  refine ⟨rfl, ⟨hB, rfl, heap_alloc_new w _, fun i o h => ?_⟩, (Fr.refl _ _).alloc _⟩
  exact absurd h (by
    have : Fd.nthO Fd.new.sl i = none := by
      unfold Fd.nthO Fd.new
      simp only [List.getD_eq_getElem?_getD, List.getElem?_replicate]
      split <;> rfl
    rw [this]; exact fun e => by cases e)

def leastAns (t : Fd.T) : Value := match Fd.least t with
  | some i => .tuple #[.int .i64 i, .nilIface]
  | none => .tuple #[.int .i64 0, .iface 69 (.int .i64 4)]
theorem fdSlots_get (t : Fd.T) (k : Nat) (h : t.sl.length = 8) (hk : k < 8) : (fdSlots t)[k]? = some (ptrV (Fd.nthO t.sl k)) := by
  simp [fdSlots, Fd.nthO, List.getD, show k < t.sl.length by omega]
theorem fd_least (w : World) (B b : Nat) (t : Fd.T) (hT : FdT B w b t) :
    Calls Tryd.prog 37 #[.pointer (some ⟨b, 0, none⟩)] w fun e w' => e = .returned (leastAns t) ∧ w = w' := by
  have hlen := hT.len
  have HTab := Lib.hid hT.tab
  have hsz : (fdSlots t).size = 8 := by simp [fdSlots, hlen]
  have HZ := Lib.hid hsz
  have HG := Lib.hid (fun k hk => fdSlots_get t k hlen hk)
  clear hT hsz hlen
  go_enter Tryd.func37, Tryd.ntmps37
  go_wp2_with (refine wpList_load_row rfl 71 _ rfl b rfl 73 (fdSlots t) (0, 0) _ HTab.out Tryd.underlying71 rfl (by rw [HZ.out]; kernel_rfl) ?_)
  go_loop [10] (fun i => ∃ k : Nat, k ≤ 8 ∧ i = .int .i64 k ∧ Hid (Fd.least t = Fd.leastFrom t.sl (8 - k) k)) (fun i => 8 - (intOf i).toNat)
  case atStart => exact ⟨0, Nat.zero_le _, rfl, rfl⟩
  case round =>
    obtain ⟨k, hk, rfl, hl⟩ := hrel
    by_cases hlt : k < 8
    · have hl' : Hid (Fd.least t = if (Fd.nthO t.sl k).isNone then some k else Fd.leastFrom t.sl (8 - (k + 1)) (k + 1)) := by
        have h := hl.out
        rw [show 8 - k = (7 - k) + 1 by omega] at h
        rw [show 8 - (k + 1) = 7 - k by omega]
        exact h
      have hidx := fun W => run_index_agg (P := Tryd.prog) W 71 64 8 k (fdSlots t) _ Tryd.underlying71 (by kernel_rfl) (by kernel_rfl) hlt (HG.out k hlt)
      cases hx : Fd.nthO t.sl k with
      | none =>
        rw [hx] at hidx hl'
        have hidx' : ∀ W, (Instr.index 71 (.agg (fdSlots t)) (.int .i64 k)).run Tryd.prog W = .ok (.pointer none) W := hidx
        clear hx hl hidx
        go_wp2
        go_ret2
        exact ⟨by unfold leastAns; rw [hl'.out]; rfl, rfl⟩
      | some o =>
        rw [hx] at hidx hl'
        have hidx' : ∀ W, (Instr.index 71 (.agg (fdSlots t)) (.int .i64 k)).run Tryd.prog W = .ok (.pointer (some ⟨o, 0, none⟩)) W := hidx
        clear hx hl hidx
        go_wp2
        go_round
        case rel => exact ⟨k + 1, by omega, by go_num, hl'.out⟩
        case measure => simp [intOf]; omega
    · have hk8 : k = 8 := by omega
      subst hk8
      go_wp2
      go_ret2
      exact ⟨by unfold leastAns; rw [hl.out]; rfl, rfl⟩

/-- What get hands back. -/
def getAns (t : Fd.T) (fd : Int) : Value := if Fd.wrong t fd = 0 then .tuple #[.pointer (some ⟨Fd.here t fd, 0, none⟩), .nilIface] else .tuple #[.pointer none, .iface 69 (.int .i64 (Fd.wrong t fd))]
theorem fd_get (w : World) (B b : Nat) (t : Fd.T) (fd : Int) (hT : FdT B w b t) :
    Calls Tryd.prog 35 #[.pointer (some ⟨b, 0, none⟩), .int .i64 fd] w fun e w' => e = .returned (getAns t fd) ∧ w = w' := by
  by_cases h0 : 0 ≤ fd ∧ fd ≤ 7
  · obtain ⟨k, rfl⟩ : ∃ k : Nat, fd = (k : Int) := ⟨fd.toNat, by omega⟩
    have hk : k < 8 := by omega
    have hc := hT.slot hk
    have e1 : decide ((0 : Int) ≤ k ∧ (k : Int) ≤ 7) = true := by simpa using h0
    have i0 : (0 : Int) ≤ k := by omega
    have i1 : (k : Int) < 8 := by omega
    cases hx : Fd.nthO t.sl k with
    | none =>
      have hw : getAns t k = .tuple #[.pointer none, .iface 69 (.int .i64 5)] := by
        unfold getAns Fd.wrong; rw [if_pos h0, Int.toNat_natCast, hx]; rfl
      rw [hw]
      rw [hx] at hc
      have hc' : w.cell? ⟨b, k, none⟩ = some (.pointer none) := hc
      clear hc hw hx h0 hT
      go_enter Tryd.func35, Tryd.ntmps35
      go_wp2_with (go_at_call 36; (with_reducible refine useC (within_any _ _ _ _) ?_); rw [e1]; rintro e w' ⟨rfl, rfl⟩)
      go_ret2
      exact ⟨rfl, rfl⟩
    | some o =>
      have hw : getAns t k = .tuple #[.pointer (some ⟨o, 0, none⟩), .nilIface] := by
        unfold getAns Fd.wrong Fd.here; rw [if_pos h0, Int.toNat_natCast, hx]; rfl
      rw [hw]
      rw [hx] at hc
      have hc' : w.cell? ⟨b, k, none⟩ = some (.pointer (some ⟨o, 0, none⟩)) := hc
      clear hc hw hx h0 hT
      go_enter Tryd.func35, Tryd.ntmps35
      go_wp2_with (go_at_call 36; (with_reducible refine useC (within_any _ _ _ _) ?_); rw [e1]; rintro e w' ⟨rfl, rfl⟩)
      go_ret2
      exact ⟨rfl, rfl⟩
  · have e1 : decide (0 ≤ fd ∧ fd ≤ 7) = false := by simpa using h0
    have hw : getAns t fd = .tuple #[.pointer none, .iface 69 (.int .i64 1)] := by
      unfold getAns Fd.wrong; rw [if_neg h0]; rfl
    rw [hw]
    clear hw h0 hT
    go_enter Tryd.func35, Tryd.ntmps35
    go_wp2_with (go_at_call 36; (with_reducible refine useC (within_any _ _ _ _) ?_); rw [e1]; rintro e w' ⟨rfl, rfl⟩)
    go_ret2
    exact ⟨rfl, rfl⟩

theorem fd_at (w : World) (B b : Nat) (t : Fd.T) (fd : Int) (hT : FdT B w b t) :
    Calls Tryd.prog 9 #[.pointer (some ⟨b, 0, none⟩), .int .i64 fd] w fun e w' => e = .returned (.int .i64 (Fd.at_ t fd)) ∧ w = w' := by
  have HG := Lib.hid (fd_get w B b t fd hT)
  by_cases hw : Fd.wrong t fd = 0
  · have hc := hT.at_ (Fd.wrong_zero hw).2
    have ea : getAns t fd = .tuple #[.pointer (some ⟨Fd.here t fd, 0, none⟩), .nilIface] := by unfold getAns; rw [if_pos hw]
    have eb := Lib.hid (show Fd.at_ t fd = (t.f (Fd.here t fd)).2 from by unfold Fd.at_; rw [if_pos hw])
    generalize Fd.here t fd = o at hc ea eb
    have EA := Lib.hid ea
    clear hw hT ea
    go_enter Tryd.func9, Tryd.ntmps9
    go_wp2_with (go_at_call 35; (with_reducible refine useC HG.out ?_); rw [EA.out]; rintro e w' ⟨rfl, rfl⟩)
    go_ret
    exact ⟨ret_int eb.out.symm, rfl⟩
  · have ea : getAns t fd = .tuple #[.pointer none, .iface 69 (.int .i64 (Fd.wrong t fd))] := by unfold getAns; rw [if_neg hw]
    have eb := Lib.hid (show Fd.at_ t fd = -1 from by unfold Fd.at_; rw [if_neg hw])
    have EA := Lib.hid ea
    clear hw hT ea
    go_enter Tryd.func9, Tryd.ntmps9
    go_wp2_with (go_at_call 35; (with_reducible refine useC HG.out ?_); rw [EA.out]; rintro e w' ⟨rfl, rfl⟩)
    go_ret
    exact ⟨ret_int eb.out.symm, rfl⟩
end Go.Proofs.YtmgalnkcpolafaaDoor
