/- The contracts of package place's Of and Block, for the blocks that a sparse file may have. -/
import Derived.Test.YtmgalnkcpolafaaDoorCommon
import Derived.Test.YtmgalnkcpolafaaDoorCAll
import Derived.Test.YtmgalnkcpolafaaDoorMix
import Derived.Test.YtmgalnkcpolafaaDoorSl2
import Derived.IntWalk
namespace Go.Proofs.YtmgalnkcpolafaaDoor
open Go.RowKit

theorem tf_Of1 (w : World) (i : Int) (h0 : 0 ≤ i) (h1 : i < 4) : Calls Tryd.prog 33 #[.int .i64 i] w fun e w' => e = .returned (.tuple #[.slice (some ⟨w.heap.size, 0, none⟩) 1 1, .nilIface]) ∧ w.alloc (.cells #[.int .i64 i] 3) = w' := by
  have e1 : decide (0 ≤ i ∧ i ≤ 23) = true := decide_eq_true (by omega)
  go_enter Tryd.func33, Tryd.ntmps33
  go_wp2_with (go_at_call 36; (with_reducible refine useC (within_is i _ _ true _ e1) ?_); rintro e w ⟨rfl, rfl⟩)
  go_ret2
  exact ⟨rfl, rfl⟩
theorem tf_Of2 (w : World) (i j : Int) (h0 : 4 ≤ i) (h1 : i < 8) (hj : i - 4 = j) : Calls Tryd.prog 33 #[.int .i64 i] w fun e w' => e = .returned (.tuple #[.slice (some ⟨w.heap.size, 0, none⟩) 2 2, .nilIface]) ∧ w.alloc (.cells #[.int .i64 4, .int .i64 j] 3) = w' := by
  have e1 : decide (0 ≤ i ∧ i ≤ 23) = true := decide_eq_true (by omega)
  have t1 : ¬ i < 4 := by omega
  have t2 : j < 4 := by omega
  go_enter Tryd.func33, Tryd.ntmps33
  go_wp2_with (go_at_call 36; (with_reducible refine useC (within_is i _ _ true _ e1) ?_); rintro e w ⟨rfl, rfl⟩)
  go_ret2
  exact ⟨rfl, rfl⟩
theorem tf_Of3 (w : World) (i j k q r : Int) (h0 : 8 ≤ i) (h1 : i < 16) (hj : i - 4 = j) (hk : j - 4 = k) (hq : k / 4 = q) (hr : k % 4 = r) :
    Calls Tryd.prog 33 #[.int .i64 i] w fun e w' => e = .returned (.tuple #[.slice (some ⟨w.heap.size, 0, none⟩) 3 3, .nilIface]) ∧ w.alloc (.cells #[.int .i64 5, .int .i64 q, .int .i64 r] 3) = w' := by
  have e1 : decide (0 ≤ i ∧ i ≤ 23) = true := decide_eq_true (by omega)
  have t1 : ¬ i < 4 := by omega
  have t2 : ¬ j < 4 := by omega
  have t3 : 0 ≤ k := by omega
  go_enter Tryd.func33, Tryd.ntmps33
  go_wp2_with (go_at_call 36; (with_reducible refine useC (within_is i _ _ true _ e1) ?_); rintro e w ⟨rfl, rfl⟩)
  go_ret2
  exact ⟨rfl, rfl⟩
theorem all_yes (w : World) (v : Value) (g : Nat) (xs : List Int) (lo hi : Int) (h : Sl w v g xs) (ha : allIn xs lo hi = true) :
    Calls Tryd.prog 43 #[v, .int .i64 lo, .int .i64 hi] w fun e w' => e = .returned (.bool true) ∧ w = w' := ha ▸ all_any w v g xs lo hi h
theorem tf_Block1 (w : World) (g : Nat) (x : Int) (hg : w.heap[g]? = some (.cells #[.int .i64 x] 3 (0, 0))) (h0 : 0 ≤ x) (h1 : x < 4) :
    Calls Tryd.prog 34 #[.slice (some ⟨g, 0, none⟩) 1 1] w fun e w' => e = .returned (.tuple #[.int .i64 x, .nilIface]) ∧ Fr [] w w' := by
  have c0 : w.cell? ⟨g, 0, none⟩ = some (.int .i64 x) := by rw [cell_of_row w g _ _ _ _ hg]; rfl
  have e1 : decide (0 ≤ x ∧ x ≤ 5) = true := decide_eq_true (by omega)
  have HA := Lib.hid (all_yes w.drew (.slice (some ⟨g, 0, none⟩) 0 0) 0 [] 0 3 (.inl ⟨rfl, _, _, rfl⟩) rfl)
  clear hg
  go_enter Tryd.func34, Tryd.ntmps34
  go_wp2
  (refine wp_region_mix (· = w.drew) 6 [(true, 0), (true, 1), (true, 2), (true, 3), (true, 4), (false, 5)] (by kernel_rfl) (by kernel_rfl) (rfl) ?_; simp only [pickOps, List.map_cons, List.map_nil, List.getD_cons_zero, List.getD_cons_succ, List.drop_succ_cons, List.drop_zero])
  (iterate 5 (first | (refine wpMix_take (v := ?_) (by rfl) ?_ ?_; rotate_left; (focus (intro W hW; subst hW; go_simp; (try with_reducible rfl); done)); try simp only [Act.put, List.setIfInBounds_toArray, List.set_cons_zero, List.set_cons_succ]) | (refine wpMix_leave (by rfl) ?_; try simp only [Act.put, List.setIfInBounds_toArray, List.set_cons_zero, List.set_cons_succ])))
  refine wpMix_walk ?_
  go_wp2
  refine MixQ.mk (rfl) ?_
  refine wpMix_nil ?_
  go_wp2_with (first
    | (go_at_call 36; (with_reducible refine useC (within_any x _ _ _) ?_); rw [e1]; rintro e w2 ⟨rfl, rfl⟩)
    | (go_at_call 43; (with_reducible refine useC HA.out ?_); rintro e w3 ⟨rfl, rfl⟩))
  all_goals
    go_ret2
    exact ⟨rfl, (Fr.refl _ _).drew⟩
theorem tf_Block2 (w : World) (g : Nat) (x : Int) (hg : w.heap[g]? = some (.cells #[.int .i64 4, .int .i64 x] 3 (0, 0))) (h0 : 0 ≤ x) (h1 : x < 4) (y : Int) (hy : 4 + x = y) :
    Calls Tryd.prog 34 #[.slice (some ⟨g, 0, none⟩) 2 2] w fun e w' => e = .returned (.tuple #[.int .i64 y, .nilIface]) ∧ Fr [] w w' := by
  have c0 : w.cell? ⟨g, 0, none⟩ = some (.int .i64 4) := by rw [cell_of_row w g _ _ _ _ hg]; rfl
  have c1 : w.cell? ⟨g, 1, none⟩ = some (.int .i64 x) := by rw [cell_of_row w g _ _ _ _ hg]; rfl
  have e1 : decide ((0 : Int) ≤ 4 ∧ (4 : Int) ≤ 5) = true := by decide
  have HA := Lib.hid (all_yes w.drew (.slice (some ⟨g, 1, none⟩) 1 1) g [x] 0 3 (.inr ⟨1, 1, rfl, Nat.le_refl _, by decide, fun i hi => by
    have : i = 0 := by simpa using hi
    subst this
    exact c1⟩) (by simp [allIn]; omega))
  clear hg
  go_enter Tryd.func34, Tryd.ntmps34
  go_wp2
  (refine wp_region_mix (· = w.drew) 6 [(true, 0), (true, 1), (true, 2), (true, 3), (true, 4), (false, 5)] (by kernel_rfl) (by kernel_rfl) (rfl) ?_; simp only [pickOps, List.map_cons, List.map_nil, List.getD_cons_zero, List.getD_cons_succ, List.drop_succ_cons, List.drop_zero])
  (iterate 5 (first | (refine wpMix_take (v := ?_) (by rfl) ?_ ?_; rotate_left; (focus (intro W hW; subst hW; go_simp; (try with_reducible rfl); done)); try simp only [Act.put, List.setIfInBounds_toArray, List.set_cons_zero, List.set_cons_succ]) | (refine wpMix_leave (by rfl) ?_; try simp only [Act.put, List.setIfInBounds_toArray, List.set_cons_zero, List.set_cons_succ])))
  refine wpMix_walk ?_
  go_wp2
  refine MixQ.mk (rfl) ?_
  refine wpMix_nil ?_
  go_wp2_with (first
    | (go_at_call 36; (with_reducible refine useC (within_any 4 _ _ _) ?_); rw [e1]; rintro e w2 ⟨rfl, rfl⟩)
    | (go_at_call 43; (with_reducible refine useC HA.out ?_); rintro e w3 ⟨rfl, rfl⟩))
  all_goals
    go_ret2
    exact ⟨rfl, (Fr.refl _ _).drew⟩
theorem tf_Block3 (w : World) (g : Nat) (x z : Int) (hg : w.heap[g]? = some (.cells #[.int .i64 5, .int .i64 x, .int .i64 z] 3 (0, 0))) (h0 : 0 ≤ x) (h1 : x < 4) (h2 : 0 ≤ z) (h3 : z < 4) (y : Int) (hy : 8 + x * 4 + z = y) :
    Calls Tryd.prog 34 #[.slice (some ⟨g, 0, none⟩) 3 3] w fun e w' => e = .returned (.tuple #[.int .i64 y, .nilIface]) ∧ Fr [] w w' := by
  have c0 : w.cell? ⟨g, 0, none⟩ = some (.int .i64 5) := by rw [cell_of_row w g _ _ _ _ hg]; rfl
  have c1 : w.cell? ⟨g, 1, none⟩ = some (.int .i64 x) := by rw [cell_of_row w g _ _ _ _ hg]; rfl
  have c2 : w.cell? ⟨g, 2, none⟩ = some (.int .i64 z) := by rw [cell_of_row w g _ _ _ _ hg]; rfl
  have e1 : decide ((0 : Int) ≤ 5 ∧ (5 : Int) ≤ 5) = true := by decide
  have HA := Lib.hid (all_yes w.drew (.slice (some ⟨g, 1, none⟩) 2 2) g [x, z] 0 3 (.inr ⟨1, 2, rfl, Nat.le_refl _, by decide, fun i hi => by
    have : i = 0 ∨ i = 1 := by simp at hi; omega
    rcases this with rfl | rfl
    · exact c1
    · exact c2⟩) (by simp [allIn]; omega))
  clear hg
  go_enter Tryd.func34, Tryd.ntmps34
  go_wp2
  (refine wp_region_mix (· = w.drew) 6 [(true, 0), (true, 1), (true, 2), (true, 3), (true, 4), (false, 5)] (by kernel_rfl) (by kernel_rfl) (rfl) ?_; simp only [pickOps, List.map_cons, List.map_nil, List.getD_cons_zero, List.getD_cons_succ, List.drop_succ_cons, List.drop_zero])
  (iterate 5 (first | (refine wpMix_take (v := ?_) (by rfl) ?_ ?_; rotate_left; (focus (intro W hW; subst hW; go_simp; (try with_reducible rfl); done)); try simp only [Act.put, List.setIfInBounds_toArray, List.set_cons_zero, List.set_cons_succ]) | (refine wpMix_leave (by rfl) ?_; try simp only [Act.put, List.setIfInBounds_toArray, List.set_cons_zero, List.set_cons_succ])))
  refine wpMix_walk ?_
  go_wp2
  refine MixQ.mk (rfl) ?_
  refine wpMix_nil ?_
  go_wp2_with (first
    | (go_at_call 36; (with_reducible refine useC (within_any 5 _ _ _) ?_); rw [e1]; rintro e w2 ⟨rfl, rfl⟩)
    | (go_at_call 43; (with_reducible refine useC HA.out ?_); rintro e w3 ⟨rfl, rfl⟩))
  have w1 : IntKind.i64.wrap (x * 4) = x * 4 := IntWalk.i64_in _ (by omega)
  have w2 : IntKind.i64.wrap (8 + x * 4) = 8 + x * 4 := IntWalk.i64_in _ (by omega)
  (refine wp_region_mixq 8 [(true, 0), (true, 1), (true, 2), (true, 3), (true, 4), (true, 5), (true, 6), (true, 7)] (by kernel_rfl) (by kernel_rfl) ?_; simp only [pickOps, List.map_cons, List.map_nil, List.getD_cons_zero, List.getD_cons_succ, List.drop_succ_cons, List.drop_zero]; (iterate 8 (first | (refine wpMix_take (v := ?_) (by rfl) ?_ ?_; rotate_left; (focus (intro W hW; subst hW; go_simp; (try with_reducible rfl); done)); try simp only [Act.put, List.setIfInBounds_toArray, List.set_cons_zero, List.set_cons_succ]) | (refine wpMix_leave (by rfl) ?_; try simp only [Act.put, List.setIfInBounds_toArray, List.set_cons_zero, List.set_cons_succ]))); refine wpMix_nil ?_)
  go_wp2
  all_goals
    go_ret2
    exact ⟨rfl, (Fr.refl _ _).drew.drew⟩
end Go.Proofs.YtmgalnkcpolafaaDoor
