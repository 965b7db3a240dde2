/- The contracts of package soft's functions: Drop, Inode, Entry, Crash. -/
import Derived.Test.YtcldaaebncclmaaDoorSoWalk
namespace Go.Proofs.YtcldaaebncclmaaDoor
open Go.RowKit

set_option maxRecDepth 100000 in
theorem so_drop (w : World) (b : Nat) (L : List Int) (e : Int) (hD : SoD w b L) (hS : So.Shp L) (hB : ∀ j : Nat, j < 8 → nth L (20 + j) ≤ 1000000 ∧ -1000000 ≤ nth L (20 + j)) :
    Calls Tryd.prog 42 #[.pointer (some ⟨b, 0, none⟩), .int .i64 e] w (SoAns b (errV (So.drop L e).2) (So.drop L e).1 w) := by
  have HD := Lib.hid hD
  by_cases he : 0 ≤ e ∧ e ≤ 11
  · have e1 : decide (0 ≤ e ∧ e ≤ 11) = true := decide_eq_true he
    obtain ⟨n, rfl⟩ : ∃ n : Nat, e = n := ⟨e.toNat, by omega⟩
    have hn : n < 12 := by omega
    have hc := hD.cell (i := 28 + n) (by rw [hS.len]; omega)
    have hf := hD.free (28 + n)
    have hn12 : (n : Int) < 12 := by omega
    by_cases h0 : nth L (28 + n) < 0
    · have er := Lib.hid (show So.drop L n = (L, 5) from by unfold So.drop; rw [if_neg (by omega)]; simp only [Int.toNat_natCast]; rw [if_pos h0])
      generalize nth L (28 + n) = x at *
      clear he hD hS hB
      go_enter Tryd.func42, Tryd.ntmps42
      go_wp2_with (go_at_call 45; (with_reducible refine useC (so_entry_is _ _ e1 _) ?_); rintro e w' ⟨rfl, rfl⟩)
      go_ret
      rw [er.out]
      exact ⟨rfl, HD.out, Fr.refl _ _⟩
    · have hm := hS.eM n hn
      obtain ⟨j, hj⟩ : ∃ j : Nat, nth L (28 + n) = j := ⟨(nth L (28 + n)).toNat, by omega⟩
      have hj8 : j < 8 := by omega
      have hj80 : (j : Int) < 8 := by omega
      have er := Lib.hid (show So.drop L n = ((L.set (28 + n) (-1)).set (20 + j) (nth L (20 + j) - 1), 0) from by unfold So.drop; rw [if_neg (by omega)]; simp only [Int.toNat_natCast]; rw [if_neg h0, hj, Int.toNat_natCast])
      have hf2 := fun x => (hD.put (28 + n) x).free (20 + j)
      have hc2 : ∀ x, (w.setCell ⟨b, 28 + n, none⟩ (.int .i64 x)).drew.cell? ⟨b, 20 + j, none⟩ = some (.int .i64 (nth L (20 + j))) := fun x => by
        have := (hD.put (28 + n) x).cell (i := 20 + j) (by rw [List.length_set, hS.len]; omega)
        rw [So.nth_set _ _ _ _ (by rw [hS.len]; omega), if_neg (by omega)] at this
        exact this
      obtain ⟨hb1, hb2⟩ := hB j hj8
      rw [hj] at hc
      generalize hy : nth L (20 + j) = y at *
      clear he hD hS hB hy h0 hj hm
      go_enter Tryd.func42, Tryd.ntmps42
      go_wp2_with (go_at_call 45; (with_reducible refine useC (so_entry_is _ _ e1 _) ?_); rintro e w' ⟨rfl, rfl⟩)
      (refine wp_region_mixq 11 [(true, 0), (true, 1), (true, 2), (true, 3), (true, 4), (true, 5), (true, 6), (true, 7), (true, 8), (true, 9), (true, 10)] (by kernel_rfl) (by kernel_rfl) ?_; simp only [pickOps, List.map_cons, List.map_nil, List.getD_cons_zero, List.getD_cons_succ, List.drop_succ_cons, List.drop_zero]; (iterate 11 (first | (refine wpMix_take (v := ?_) (by rfl) ?_ ?_; rotate_left; (focus (intro W hW; subst hW; go_simp; (try with_reducible rfl); done)); try simp only [Act.put, List.setIfInBounds_toArray, List.set_cons_zero, List.set_cons_succ]) | (refine wpMix_leave (by rfl) ?_; try simp only [Act.put, List.setIfInBounds_toArray, List.set_cons_zero, List.set_cons_succ]))); refine wpMix_nil ?_)
      go_wp2
      go_ret
      rw [er.out]
      exact ⟨rfl, (HD.out.put (28 + n) (-1)).put (20 + j) (y - 1), (((Fr.refl _ _).setCell (.inl (by simp)) _).drew).setCell (.inl (by simp)) _⟩
  · have e1 : decide (0 ≤ e ∧ e ≤ 11) = false := decide_eq_false he
    have er := Lib.hid (show So.drop L e = (L, 1) from by unfold So.drop; rw [if_pos he])
    clear he hD hS hB
    go_enter Tryd.func42, Tryd.ntmps42
    go_wp2_with (go_at_call 45; (with_reducible refine useC (so_entry_is _ _ e1 _) ?_); rintro e w' ⟨rfl, rfl⟩)
    go_ret
    rw [er.out]
    exact ⟨rfl, HD.out, Fr.refl _ _⟩

set_option maxRecDepth 100000 in
theorem so_Inode (w : World) (b : Nat) (L : List Int) (i : Int) (hD : SoD w b L) (hS : So.Shp L) :
    Calls Tryd.prog 38 #[.pointer (some ⟨b, 0, none⟩), .int .i64 i] w (SoAns b (errV (So.inode L i).2) (So.inode L i).1 w) := by
  have HD := Lib.hid hD
  by_cases hi : 0 ≤ i ∧ i ≤ 7
  · have e1 : decide (0 ≤ i ∧ i ≤ 7) = true := decide_eq_true hi
    obtain ⟨j, rfl⟩ : ∃ j : Nat, i = j := ⟨i.toNat, by omega⟩
    have hj : j < 8 := by omega
    have hj8 : (j : Int) < 8 := by omega
    have hc := hD.cell (i := 20 + j) (by rw [hS.len]; omega)
    have hc0 := hD.cell (i := j) (by rw [hS.len]; omega)
    have hf := hD.free j
    have HN := Lib.hid (so_names w.drew b 0 L _ _ (j : Int) hD (by rw [hS.len]; omega))
    have ei : So.inode L j = So.inodeAt L j := by unfold So.inode; rw [if_neg (by omega), Int.toNat_natCast]
    have hnm : So.names L 0 j ≤ 12 := So.namesTo_le _ _ _ _
    by_cases h0 : nth L (20 + j) < (So.names L 0 (j : Int) : Int)
    · have er := Lib.hid (show So.inode L j = (L, 7) from by rw [ei]; unfold So.inodeAt; rw [if_pos h0])
      generalize nth L (20 + j) = x at *
      generalize So.names L 0 (j : Int) = m at *
      clear hi hD hS ei
      go_enter Tryd.func38, Tryd.ntmps38
      go_wp2_with (go_at_call 47; (with_reducible refine useC (so_inode_is _ _ e1 _) ?_); rintro e w' ⟨rfl, rfl⟩)
      (refine wp_region_mix (· = w.drew) 12 [(true, 0), (true, 1), (true, 2), (true, 3), (true, 4), (true, 5), (true, 6), (true, 7), (true, 8), (true, 9), (true, 10), (false, 11)] (by kernel_rfl) (by kernel_rfl) (rfl) ?_; simp only [pickOps, List.map_cons, List.map_nil, List.getD_cons_zero, List.getD_cons_succ, List.drop_succ_cons, List.drop_zero])
      (iterate 11 (first | (refine wpMix_take (v := ?_) (by rfl) ?_ ?_; rotate_left; (focus (intro W hW; subst hW; go_simp; (try with_reducible rfl); done)); try simp only [Act.put, List.setIfInBounds_toArray, List.set_cons_zero, List.set_cons_succ]) | (refine wpMix_leave (by rfl) ?_; try simp only [Act.put, List.setIfInBounds_toArray, List.set_cons_zero, List.set_cons_succ])))
      refine wpMix_walk ?_
      go_wp2_with (go_at_call 46; (with_reducible refine useC HN.out ?_); rintro e w' ⟨rfl, rfl⟩)
      refine MixQ.mk (rfl) ?_
      refine wpMix_nil ?_
      go_wp2
      go_ret
      rw [er.out]
      exact ⟨rfl, HD.out, (Fr.refl _ _).drew⟩
    · have er := Lib.hid (show So.inode L j = (L.set j (nth L (20 + j)), 0) from by rw [ei]; unfold So.inodeAt; rw [if_neg h0])
      generalize nth L (20 + j) = x at *
      generalize So.names L 0 (j : Int) = m at *
      generalize nth L j = y at *
      clear hi hD hS ei
      go_enter Tryd.func38, Tryd.ntmps38
      go_wp2_with (go_at_call 47; (with_reducible refine useC (so_inode_is _ _ e1 _) ?_); rintro e w' ⟨rfl, rfl⟩)
      (refine wp_region_mix (· = w.drew) 12 [(true, 0), (true, 1), (true, 2), (true, 3), (true, 4), (true, 5), (true, 6), (true, 7), (true, 8), (true, 9), (true, 10), (false, 11)] (by kernel_rfl) (by kernel_rfl) (rfl) ?_; simp only [pickOps, List.map_cons, List.map_nil, List.getD_cons_zero, List.getD_cons_succ, List.drop_succ_cons, List.drop_zero])
      (iterate 11 (first | (refine wpMix_take (v := ?_) (by rfl) ?_ ?_; rotate_left; (focus (intro W hW; subst hW; go_simp; (try with_reducible rfl); done)); try simp only [Act.put, List.setIfInBounds_toArray, List.set_cons_zero, List.set_cons_succ]) | (refine wpMix_leave (by rfl) ?_; try simp only [Act.put, List.setIfInBounds_toArray, List.set_cons_zero, List.set_cons_succ])))
      refine wpMix_walk ?_
      go_wp2_with (go_at_call 46; (with_reducible refine useC HN.out ?_); rintro e w' ⟨rfl, rfl⟩)
      refine MixQ.mk (rfl) ?_
      refine wpMix_nil ?_
      go_wp2
      (refine wp_region_mixq 12 [(true, 0), (true, 1), (true, 2), (true, 3), (true, 4), (true, 5), (true, 6), (true, 7), (true, 8), (true, 9), (true, 10), (true, 11)] (by kernel_rfl) (by kernel_rfl) ?_; simp only [pickOps, List.map_cons, List.map_nil, List.getD_cons_zero, List.getD_cons_succ, List.drop_succ_cons, List.drop_zero]; (iterate 12 (first | (refine wpMix_take (v := ?_) (by rfl) ?_ ?_; rotate_left; (focus (intro W hW; subst hW; go_simp; (try with_reducible rfl); done)); try simp only [Act.put, List.setIfInBounds_toArray, List.set_cons_zero, List.set_cons_succ]) | (refine wpMix_leave (by rfl) ?_; try simp only [Act.put, List.setIfInBounds_toArray, List.set_cons_zero, List.set_cons_succ]))); refine wpMix_nil ?_)
      go_wp2
      go_ret
      rw [er.out]
      exact ⟨rfl, SoD.put (HD.out : SoD w.drew.drew b L) j x, (((Fr.refl _ _).drew).drew).setCell (.inl (by simp)) _⟩
  · have e1 : decide (0 ≤ i ∧ i ≤ 7) = false := decide_eq_false hi
    have er := Lib.hid (show So.inode L i = (L, 1) from by unfold So.inode; rw [if_pos hi])
    clear hi hD hS
    go_enter Tryd.func38, Tryd.ntmps38
    go_wp2_with (go_at_call 47; (with_reducible refine useC (so_inode_is _ _ e1 _) ?_); rintro e w' ⟨rfl, rfl⟩)
    go_ret
    rw [er.out]
    exact ⟨rfl, HD.out, Fr.refl _ _⟩
end Go.Proofs.YtcldaaebncclmaaDoor
