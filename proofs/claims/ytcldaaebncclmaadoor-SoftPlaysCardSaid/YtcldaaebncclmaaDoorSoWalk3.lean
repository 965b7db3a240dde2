/- The contracts of package soft's functions: Entry, Crash, New. -/
import Derived.Test.YtcldaaebncclmaaDoorSoWalk2
import Derived.Test.YtcldaaebncclmaaDoorCopy
namespace Go.Proofs.YtcldaaebncclmaaDoor
open Go.RowKit

theorem take_set_ints (L : List Int) (q : Nat) (x : Int) (n : Nat) : (L.take n).set q x = (L.set q x).take n := by rw [List.take_set]
theorem nth_take (L : List Int) (n i : Nat) (h : i < n) : nth (L.take n) i = nth L i := by
  unfold nth
  simp only [List.getD_eq_getElem?_getD, List.getElem?_take]
  rw [if_pos h]
theorem names_take (L : List Int) (i : Int) : So.names (L.take 20) 0 i = So.names L 0 i := So.namesTo_congr i 12 (fun k hk => nth_take L 20 _ (by omega))
theorem next_split (L : List Int) (hl : L.length = 40) (e : Nat) (he : e < 12) : (So.next L e).take 20 ++ L.drop 20 = So.next L e := by
  have : L.drop 20 = (So.next L e).drop 20 := by
    unfold So.next
    rw [List.drop_set_of_lt (by omega)]
  rw [this, List.take_append_drop]
set_option maxRecDepth 100000 in
theorem so_Entry (w : World) (b : Nat) (L : List Int) (e : Int) (hD : SoD w b L) (hS : So.Shp L) :
    Calls Tryd.prog 37 #[.pointer (some ⟨b, 0, none⟩), .int .i64 e] w (SoAns b (errV (So.entry L e).2) (So.entry L e).1 w) := by
  have HD := Lib.hid hD
  by_cases he : 0 ≤ e ∧ e ≤ 11
  · have e1 : decide (0 ≤ e ∧ e ≤ 11) = true := decide_eq_true he
    obtain ⟨n, rfl⟩ : ∃ n : Nat, e = n := ⟨e.toNat, by omega⟩
    have hn : n < 12 := by omega
    have hn12 : (n : Int) < 12 := by omega
    have ei : So.entry L n = So.entryAt L n := by unfold So.entry; rw [if_neg (by omega), Int.toNat_natCast]
    have hlt := lt_of_heap hD
    have HL0 : Hid ((((ints L).toList.drop 0).take 20).toArray = ints (L.take 20)) := by show _ = _; rw [part_ints]; rfl
    have hz : (ints (L.take 20)).size = 20 := by simp [hS.len]
    have HS := Lib.hid hS
    have HZ := Lib.hid hz
    have hm := hS.eM n hn
    have Hl := Lib.hid hS.len
    have HK : Hid (∀ W : World, Fr [] w W → W.cell? ⟨b, 28 + n, none⟩ = some (.int .i64 (nth L (28 + n)))) := fun W hW => (hD.fr hW (by simp)).cell (i := 28 + n) (by rw [hS.len]; omega)
    have hl20 : (L.take 20).length = 20 := by simp [hS.len]
    have HT20 := Lib.hid hl20
    clear hz hD hS he hl20
    go_enter Tryd.func37, Tryd.ntmps37
    go_wp2_with (first
      | (go_at_call 45; (with_reducible refine useC (so_entry_is _ _ e1 _) ?_); rintro e w' ⟨rfl, rfl⟩)
      | refine wpList_load_part rfl 79 _ rfl b 0 20 rfl 81 (ints L) (0, 0) _ HD.out Tryd.underlying79 rfl (by kernel_rfl) (by rw [size_ints, Hl.out]; decide) _ HL0.out ?_
      | (refine wpList_store_fresh rfl 79 _ _ rfl rfl (ints (L.take 20)) rfl rfl (by rw [HZ.out]; kernel_rfl) (by rw [HZ.out]; rfl) ints_one ?_; intro w2 hw2 hf2 hs2; have hcm := HK.out w2 hf2; have hf8 := free_block hw2 (8 + n) none; have hc8 := cell_ints hw2 (i := 8 + n) (by rw [HT20.out]; omega); have HW2 := Lib.hid hw2; have HF2 := Lib.hid hf2; clear hw2 hf2))
    have HW3 : Hid ((w2.setCell ⟨w.heap.size, 8 + n, none⟩ (.int .i64 (nth L (28 + n)))).heap[w.heap.size]? = some (.cells (ints ((So.next L n).take 20)) 79 (0, 0))) := by
      have h := set_ints (i := 8 + n) HW2.out (nth L (28 + n))
      rw [← List.take_set] at h
      show _ = _
      rw [h]
      unfold So.next
      rw [Nat.zero_add]
    have HF3 : Hid (Fr [] w (w2.setCell ⟨w.heap.size, 8 + n, none⟩ (.int .i64 (nth L (28 + n))))) := HF2.out.step ((Fr.refl [w.heap.size] w2).setCell (.inl (by simp)) _) (by simp)
    clear HW2 HF2 hcm hf8 hc8 hs2
    generalize (w2.setCell ⟨w.heap.size, 8 + n, none⟩ (.int .i64 (nth L (28 + n)))) = w3 at *
    have htb := hlt
    generalize w.heap.size = tb at *
    have HPS : Hid (((ints L).toList.take 0 ++ (ints ((So.next L n).take 20)).toList ++ (ints L).toList.drop (0 + (ints ((So.next L n).take 20)).size)).toArray = ints (So.next L n)) := by
      show _ = _
      have h20 : ((So.next L n).take 20).length = 20 := by simp [So.next, Hl.out]
      apply Array.ext'
      simp only [List.take_zero, List.nil_append, Nat.zero_add, size_ints, h20, ints_toList, ← List.map_drop, ← List.map_append]
      rw [next_split L Hl.out n hn]
    have HLT : Hid ((((ints ((So.next L n).take 20)).toList.drop 0).take 20).toArray = ints ((So.next L n).take 20)) := by
      show _ = _
      rw [part_ints, List.drop_zero, List.take_take]
      rfl
    have HZ3 : Hid ((ints ((So.next L n).take 20)).size = 20) := by show _ = _; simp [So.next, Hl.out]
    have HD3 : Hid (SoD w3 b L) := HD.out.fr HF3.out (by simp)
    have hnm : So.names (So.next L n) 0 (nth L (28 + n)) ≤ 12 := So.namesTo_le _ _ _ _
    have HN := Lib.hid (so_names w3.drew tb 0 ((So.next L n).take 20) _ _ (nth L (28 + n)) HW3.out (by simp [So.next, Hl.out]))
    rw [names_take] at HN
    by_cases h0 : 0 ≤ nth L (28 + n)
    · obtain ⟨j, hj⟩ : ∃ j : Nat, nth L (28 + n) = j := ⟨(nth L (28 + n)).toNat, by omega⟩
      have hj8 : j < 8 := by omega
      have hj80 : (j : Int) < 8 := by omega
      have hcj : w3.cell? ⟨tb, j, none⟩ = some (.int .i64 (nth L j)) := by
        rw [cell_ints HW3.out (i := j) (by simp [So.next, Hl.out]; omega), nth_take _ _ _ (by omega)]
        unfold So.next
        rw [So.nth_set _ _ _ _ (by rw [Hl.out]; omega), if_neg (by omega)]
      have HTM : Hid (So.tooMany L n ↔ nth L j < (So.names (So.next L n) 0 (j : Int) : Int)) := by
        show _ ↔ _
        unfold So.tooMany
        rw [hj, Int.toNat_natCast]
        exact ⟨fun h => h.2, fun h => ⟨by omega, h⟩⟩
      rw [hj] at hnm HN
      simp only [hj]
      clear h0 hm
      by_cases ht : nth L j < (So.names (So.next L n) 0 (j : Int) : Int)
      · have er := Lib.hid (show So.entry L n = (L, 7) from by rw [ei]; unfold So.entryAt; rw [if_pos (HTM.out.2 ht)])
        clear HTM ei hj
        generalize So.names (So.next L n) 0 (j : Int) = m at *
        generalize nth L j = y at *
        (refine wp_region_mix (· = w3.drew) 9 [(true, 0), (true, 1), (true, 2), (true, 3), (true, 5), (true, 6), (true, 7), (true, 8), (false, 4)] (by kernel_rfl) (by kernel_rfl) (rfl) ?_; simp only [pickOps, List.map_cons, List.map_nil, List.getD_cons_zero, List.getD_cons_succ, List.drop_succ_cons, List.drop_zero])
        (iterate 8 (first | (refine wpMix_take (v := ?_) (by rfl) ?_ ?_; rotate_left; (focus (intro W hW; subst hW; go_simp; (try with_reducible rfl); done)); try simp only [Act.put, List.setIfInBounds_toArray, List.set_cons_zero, List.set_cons_succ]) | (refine wpMix_leave (by rfl) ?_; try simp only [Act.put, List.setIfInBounds_toArray, List.set_cons_zero, List.set_cons_succ])))
        refine wpMix_walk ?_
        go_wp2_with (go_at_call 46; (with_reducible refine useC HN.out ?_); rintro e w' ⟨rfl, rfl⟩)
        refine MixQ.mk (rfl) ?_
        refine wpMix_nil ?_
        go_wp2
        go_ret
        rw [er.out]
        exact ⟨rfl, HD3.out, HF3.out.nil.drew⟩
      · have er := Lib.hid (show So.entry L n = (So.next L n, 0) from by rw [ei]; unfold So.entryAt; rw [if_neg (fun h => ht (HTM.out.1 h))])
        clear HTM ei hj
        generalize So.names (So.next L n) 0 (j : Int) = m at *
        generalize nth L j = y at *
        (refine wp_region_mix (· = w3.drew) 9 [(true, 0), (true, 1), (true, 2), (true, 3), (true, 5), (true, 6), (true, 7), (true, 8), (false, 4)] (by kernel_rfl) (by kernel_rfl) (rfl) ?_; simp only [pickOps, List.map_cons, List.map_nil, List.getD_cons_zero, List.getD_cons_succ, List.drop_succ_cons, List.drop_zero])
        (iterate 8 (first | (refine wpMix_take (v := ?_) (by rfl) ?_ ?_; rotate_left; (focus (intro W hW; subst hW; go_simp; (try with_reducible rfl); done)); try simp only [Act.put, List.setIfInBounds_toArray, List.set_cons_zero, List.set_cons_succ]) | (refine wpMix_leave (by rfl) ?_; try simp only [Act.put, List.setIfInBounds_toArray, List.set_cons_zero, List.set_cons_succ])))
        refine wpMix_walk ?_
        go_wp2_with (go_at_call 46; (with_reducible refine useC HN.out ?_); rintro e w' ⟨rfl, rfl⟩)
        refine MixQ.mk (rfl) ?_
        refine wpMix_nil ?_
        go_wp2_with (first
          | refine wpList_load_part rfl 79 _ rfl tb 0 20 rfl 79 (ints ((So.next L n).take 20)) (0, 0) _ HW3.out Tryd.underlying79 rfl (by kernel_rfl) (by rw [HZ3.out]; decide) _ HLT.out ?_
          | refine wpList_store_part rfl 79 _ _ rfl b 0 (ints ((So.next L n).take 20)) rfl rfl 81 (ints L) HD3.out (by rw [HZ3.out]; kernel_rfl) (by rw [HZ3.out, size_ints, Hl.out]; decide) ints_one _ HPS.out ?_)
        go_ret
        rw [er.out]
        exact ⟨rfl, setRow_heap _ b _ _ _ _ (show w3.drew.heap[b]? = _ from HD3.out), (HF3.out.nil.drew).setRow (.inl (by simp)) _⟩
    · have er := Lib.hid (show So.entry L n = (So.next L n, 0) from by rw [ei]; unfold So.entryAt; rw [if_neg (fun h => h0 h.1)])
      have h0' : nth L (28 + n) < 0 := by omega
      have h0d : decide (0 ≤ nth L (28 + n)) = false := decide_eq_false h0
      clear ei h0 hm HN hnm
      generalize nth L (28 + n) = y at *
      (refine wp_region_mix (· = w3.drew) 9 [(true, 0), (true, 1), (true, 2), (true, 3), (true, 5), (true, 6), (true, 7), (true, 8), (false, 4)] (by kernel_rfl) (by kernel_rfl) (rfl) ?_; simp only [pickOps, List.map_cons, List.map_nil, List.getD_cons_zero, List.getD_cons_succ, List.drop_succ_cons, List.drop_zero])
      (iterate 8 (first | (refine wpMix_take (v := ?_) (by rfl) ?_ ?_; rotate_left; (focus (intro W hW; subst hW; go_simp; (try with_reducible rfl); done)); try simp only [Act.put, List.setIfInBounds_toArray, List.set_cons_zero, List.set_cons_succ]) | (refine wpMix_leave (by rfl) ?_; try simp only [Act.put, List.setIfInBounds_toArray, List.set_cons_zero, List.set_cons_succ])))
      refine wpMix_skip (by rfl) ?_
      try simp only [Act.put, List.setIfInBounds_toArray, List.set_cons_zero, List.set_cons_succ]
      refine wpMix_nil ?_
      go_wp2_with (first
        | refine wpList_load_part rfl 79 _ rfl tb 0 20 rfl 79 (ints ((So.next L n).take 20)) (0, 0) _ HW3.out Tryd.underlying79 rfl (by kernel_rfl) (by rw [HZ3.out]; decide) _ HLT.out ?_
        | refine wpList_store_part rfl 79 _ _ rfl b 0 (ints ((So.next L n).take 20)) rfl rfl 81 (ints L) HD3.out (by rw [HZ3.out]; kernel_rfl) (by rw [HZ3.out, size_ints, Hl.out]; decide) ints_one _ HPS.out ?_)
      go_ret
      rw [er.out]
      exact ⟨rfl, setRow_heap _ b _ _ _ _ (show w3.drew.heap[b]? = _ from HD3.out), (HF3.out.nil.drew).setRow (.inl (by simp)) _⟩
  · have e1 : decide (0 ≤ e ∧ e ≤ 11) = false := decide_eq_false he
    have er := Lib.hid (show So.entry L e = (L, 1) from by unfold So.entry; rw [if_pos he])
    clear he hD hS
    go_enter Tryd.func37, Tryd.ntmps37
    go_wp2_with (go_at_call 45; (with_reducible refine useC (so_entry_is _ _ e1 _) ?_); rintro e w' ⟨rfl, rfl⟩)
    go_ret
    rw [er.out]
    exact ⟨rfl, HD.out, Fr.refl _ _⟩

theorem crash_split (L : List Int) (hl : L.length = 40) : L.take 20 ++ L.take 20 = So.crash L := rfl
set_option maxRecDepth 100000 in
theorem so_Crash (w : World) (b : Nat) (L : List Int) (hD : SoD w b L) (hl : L.length = 40) :
    Calls Tryd.prog 22 #[.pointer (some ⟨b, 0, none⟩)] w (SoAns b (.tuple #[]) (So.crash L) w) := by
  have HD := Lib.hid hD
  have HL0 : Hid ((((ints L).toList.drop 0).take 20).toArray = ints (L.take 20)) := by show _ = _; rw [part_ints]; rfl
  have hz : (ints (L.take 20)).size = 20 := by simp [hl]
  have HP : Hid (((ints L).toList.take 20 ++ (ints (L.take 20)).toList ++ (ints L).toList.drop (20 + (ints (L.take 20)).size)).toArray = ints (So.crash L)) := by
    show _ = _
    rw [hz]
    apply Array.ext'
    simp only [ints_toList, So.crash, List.map_append, List.map_take]
    rw [show 20 + 20 = (L.map (Value.int .i64)).length by simp [hl], List.drop_length, List.append_nil]
  have HZ := Lib.hid hz
  have Hl := Lib.hid hl
  clear hD hl hz
  go_enter Tryd.func22, Tryd.ntmps22
  go_wp2_with (first
    | refine wpList_load_part rfl 79 _ rfl b 0 20 rfl 81 (ints L) (0, 0) _ HD.out Tryd.underlying79 rfl (by kernel_rfl) (by rw [size_ints, Hl.out]; decide) _ HL0.out ?_
    | refine wpList_store_part rfl 79 _ _ rfl b 20 (ints (L.take 20)) rfl rfl 81 (ints L) HD.out (by rw [HZ.out]; kernel_rfl) (by rw [HZ.out, size_ints, Hl.out]; decide) ints_one _ HP.out ?_)
  go_returns
  exact ⟨rfl, setRow_heap _ b _ _ _ _ HD.out, (Fr.refl _ _).setRow (.inl (by simp)) _⟩
end Go.Proofs.YtcldaaebncclmaaDoor
