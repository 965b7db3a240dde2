/- New, Flush, down, Put, Drop of package lsm. -/
import Derived.Test.YtokbhiokcoldbaaDoorLsHeap
import Derived.Handy
namespace Go.Proofs.YtokbhiokcoldbaaDoor
open Go.RowKit

theorem ls_New (w : World) : Calls Tryd.prog 31 #[] w fun e w' => e = .returned (.pointer (some ⟨w.heap.size, 0, none⟩)) ∧ LsF (w.heap.size ≤ ·) w' w.heap.size Ls.new ∧ Fr [] w w' := by
  have HF : Hid (∀ W, W = w.alloc (.cells #[.slice none 0 0, .slice none 0 0, .int .i64 0] 114) → LsF (w.heap.size ≤ ·) W w.heap.size Ls.new ∧ Fr [] w W) := fun W hW => by
    subst hW
    exact ⟨⟨_, _, [], ⟨Nat.le_refl _, fun g hg => (by cases hg), fun g hg => (by cases hg), heap_alloc_new w _, OwnR.nil, OwnR.nil, rfl, fun i hi => (by simp at hi)⟩⟩, (Fr.refl _ _).alloc _⟩
  go_enter Tryd.func31, Tryd.ntmps31
  go_wp2
  go_ret
  exact ⟨rfl, HF.out _ rfl⟩
set_option maxRecDepth 100000 in
set_option maxHeartbeats 4000000 in
theorem ls_Flush (w : World) (P : Nat → Prop) (b : Nat) (m : Ls.M) (h : LsF P w b m) (hl : m.runs.length ≤ 1000) (hml : m.mem.length ≤ 1000) :
    Calls Tryd.prog 34 #[.pointer (some ⟨b, 0, none⟩)] w (LsAns P b (.tuple #[]) (Ls.flush m) w) := by
  obtain ⟨vm, vr, vs, hS⟩ := h
  have HS := Lib.hid hS
  obtain ⟨c0, c1, c2, cf⟩ := hS.cells
  obtain ⟨A, c, rfl⟩ := hS.mem.form
  obtain ⟨A2, k2, rfl⟩ := hS.runs.form
  have hvl := hS.len
  by_cases hm : m.mem = []
  · have HE : Hid (LsAns P b (.tuple #[]) (Ls.flush m) w (.returned (.tuple #[])) w) := by
      unfold Ls.flush
      rw [if_pos hm]
      exact LsAns.none ⟨_, _, _, hS⟩ rfl (Fr.refl _ _)
    have hz : m.mem.length = 0 := by rw [hm]; rfl
    rw [hz] at c0
    clear hS hm HS
    go_enter Tryd.func34, Tryd.ntmps34
    go_wp2
    go_returns
    exact HE.out
  · have hp := List.length_pos_iff.2 hm
    have hpI : (0 : Int) < m.mem.length := by omega
    have hEq : Hid (Ls.flush m = ⟨[], m.mem :: m.runs, m.many⟩) := by unfold Ls.flush; exact if_neg hm
    have HCE : Hid (∀ W, Fr (Value.slice A2 vs.length k2).ownBlock.toList w W → W.cell? ⟨b, 0, none⟩ = some (.slice A m.mem.length c) ∧ W.cell? ⟨b, 1, none⟩ = some (.slice A2 vs.length k2) ∧ ∀ i, W.frozen? ⟨b, i, none⟩ = false) := fun W hW => by
      have hb := hW.get hS.file (by simpa using hS.ne.2.1)
      refine ⟨?_, ?_, fun i => free_block hb i none⟩ <;> (rw [cell_of_row W b _ _ _ _ hb]; rfl)
    obtain ⟨w1, hw1⟩ : ∃ w1, (w.alloc (.cells #[.slice A m.mem.length c] 111)).drew = w1 := ⟨_, rfl⟩
    have hf1 : Fr [] w w1 := by rw [← hw1]; exact ((Fr.refl [] w).alloc _).drew
    have HI := Lib.hid (insT w1 0 (.slice A2 vs.length k2) 0 vs ⟨A, m.mem.length, c⟩ w.heap.size (hS.runs.kept hf1 (by simp)) (Nat.zero_le _) (by rw [← hw1]; exact heap_alloc_new w _) (fun e => by have := (hS.runs.ge _ e).2; omega) (by omega) (Nat.zero_le _))
    have HF1 := Lib.hid hf1
    have HW1 := Lib.hid hw1
    clear hS hm hw1 hf1 hvl
    go_enter Tryd.func34, Tryd.ntmps34
    go_wp2_with fail
    (refine wp_region_mix (Fr (Value.slice A2 vs.length k2).ownBlock.toList w ·) 11 [(true, 0), (true, 1), (true, 2), (true, 3), (true, 4), (true, 5), (true, 6), (true, 7), (true, 8), (false, 9), (false, 10)] (by kernel_rfl) (by kernel_rfl) ((Fr.refl _ _).drew) ?_; simp only [pickOps, List.map_cons, List.map_nil, List.getD_cons_zero, List.getD_cons_succ, List.drop_succ_cons, List.drop_zero])
    (iterate 9 (first | (refine wpMix_take (v := ?_) (by rfl) ?_ ?_; rotate_left; (focus (intro W hW; obtain ⟨q0, q1, q3⟩ := HCE.out W hW; go_simp; (try with_reducible rfl); done)); try simp only [Act.put, List.setIfInBounds_toArray, List.set_cons_zero, List.set_cons_succ]) | (refine wpMix_leave (by rfl) ?_; try simp only [Act.put, List.setIfInBounds_toArray, List.set_cons_zero, List.set_cons_succ])))
    refine wpMix_walk ?_
    go_wp2
    rw [HW1.out]
    refine MixQ.mk (HF1.out.nil) ?_
    refine wpMix_walk ?_
    go_wp2_with (go_at_call 69; (with_reducible refine useC HI.out ?_); intro e2 w2 h2; have HA := Lib.hid (h2.of HF1.out); obtain ⟨⟨v', rfl, _, _⟩, _⟩ := h2)
    obtain ⟨⟨v2, e2, hr, hv⟩, hg⟩ := HA.out
    injection e2 with e2
    subst e2
    obtain ⟨A3, k3, rfl⟩ := hr.form
    have hF := fr_own hg
    have HFL := Lib.hid (HS.out.flush hF hr hv)
    have HF2 := Lib.hid hF
    clear hr hv hg hF
    refine MixQ.mk (HF2.out) ?_
    refine wpMix_nil ?_
    obtain ⟨q0, q1, q3⟩ := HCE.out w2 HF2.out
    clear HA
    go_wp2
    go_returns
    rw [hEq.out]
    exact ⟨rfl, ⟨_, _, _, HFL.out.1⟩, HFL.out.2⟩
/-- The error that a number stands for (0: none). -/
theorem down_codes (m : Ls.M) (e : Ls.E) : Ls.downErr m e = 0 ∨ Ls.downErr m e = 1 ∨ Ls.downErr m e = 4 := by
  unfold Ls.downErr
  split
  · split
    · exact .inr (.inr rfl)
    · exact .inl rfl
  · exact .inr (.inl rfl)
end Go.Proofs.YtokbhiokcoldbaaDoor
