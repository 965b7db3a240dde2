/- The contracts of package soft's functions: names, inode, entry, Link, Drop, Inode. -/
import Derived.Test.YtcldaaebncclmaaDoorCommon
import Derived.Test.YtcldaaebncclmaaDoorSoPlain2
import Derived.Test.YtcldaaebncclmaaDoorMix
import Derived.Handy
namespace Go.Proofs.YtcldaaebncclmaaDoor
open Go.RowKit

/-- Block b holds the forty numbers L. -/
def SoD (w : World) (b : Nat) (L : List Int) : Prop := w.heap[b]? = some (.cells (ints L) 81 (0, 0))
/-- The call hands back v; block b holds L; nothing else has turned. -/
def SoAns (b : Nat) (v : Value) (L : List Int) (w : World) (e : Ending) (w' : World) : Prop := e = .returned v ∧ SoD w' b L ∧ Fr [b] w w'
theorem SoD.fr {w w' : World} {b : Nat} {L : List Int} {S : List Nat} (h : SoD w b L) (hf : Fr S w w') (hb : b ∉ S) : SoD w' b L := hf.get h hb
theorem SoD.cell {w : World} {b : Nat} {L : List Int} (h : SoD w b L) {i : Nat} (hi : i < L.length) : w.cell? ⟨b, i, none⟩ = some (.int .i64 (nth L i)) := cell_ints h hi
theorem SoD.free {w : World} {b : Nat} {L : List Int} (h : SoD w b L) (i : Nat) : w.frozen? ⟨b, i, none⟩ = false := free_block h i none
theorem SoD.put {w : World} {b : Nat} {L : List Int} (h : SoD w b L) (i : Nat) (x : Int) : SoD (w.setCell ⟨b, i, none⟩ (.int .i64 x)) b (L.set i x) := set_ints h x

theorem part_ints (l : List Int) (o n : Nat) : (((ints l).toList.drop o).take n).toArray = ints ((l.drop o).take n) := by
  apply Array.ext'
  simp [ints_toList, ints, List.map_drop, List.map_take]
theorem nth_part (l : List Int) (o n i : Nat) (h : i < n) : nth ((l.drop o).take n) i = nth l (o + i) := by
  unfold nth
  simp only [List.getD_eq_getElem?_getD, List.getElem?_take, List.getElem?_drop]
  rw [if_pos h]

set_option maxRecDepth 100000 in
theorem so_names (w : World) (g o : Nat) (M : List Int) (t : TypeId) (fr : Nat × Nat) (i : Int) (hg : w.heap[g]? = some (.cells (ints M) t fr)) (ho : o + 20 ≤ M.length) :
    Calls Tryd.prog 46 #[.pointer (some ⟨g, o, none⟩), .int .i64 i] w fun e w' => e = .returned (.int .i64 (So.names M o i : Int)) ∧ w = w' := by
  have HL := Lib.hid (part_ints M (o + 8) 12)
  have HN := Lib.hid (fun k (hk : k < 12) => nth_part M (o + 8) 12 k hk)
  have HZ : Hid (((M.drop (o + 8)).take 12).length = 12) := by show _ = _; simp; omega
  have HO := Lib.hid ho
  have HG := Lib.hid hg
  clear ho hg
  go_enter Tryd.func46, Tryd.ntmps46
  go_wp2_with (refine wpList_load_part rfl 77 _ rfl g (o + 8) 12 rfl t (ints M) fr _ HG.out Tryd.underlying77 rfl (by kernel_rfl) (by rw [size_ints]; have := HO.out; omega) _ HL.out ?_)
  go_loop [5, 12] (fun n k => ∃ j : Nat, j ≤ 12 ∧ k = .int .i64 j ∧ ∃ x : Nat, n = .int .i64 x ∧ Hid (x = So.namesTo M o i j)) (fun _ k => 12 - (intOf k).toNat)
  case atStart => exact ⟨0, Nat.zero_le _, rfl, 0, rfl, rfl⟩
  case round =>
    obtain ⟨j, hj, rfl, x, rfl, hx⟩ := hrel
    by_cases hlt : j < 12
    · have hidx := fun W => run_index_agg (P := Tryd.prog) W 77 3 12 j (ints ((M.drop (o + 8)).take 12)) (.int .i64 (nth M (o + 8 + j))) Tryd.underlying77 (by kernel_rfl) (by kernel_rfl) hlt (by rw [ints_get _ j (by rw [HZ.out]; exact hlt), HN.out j hlt])
      have hxb : x ≤ 12 := by have := So.namesTo_le M o i j; have := hx.out; omega
      have hj0 : (j : Int) < 12 := by omega
      by_cases he : nth M (o + 8 + j) = i
      · have hs : Hid (So.namesTo M o i (j + 1) = x + 1) := by show _ = _; unfold So.namesTo; rw [if_pos he, hx.out]
        have eB : (nth M (o + 8 + j) == i) = true := by simpa using he
        have HE := Lib.hid he
        clear he
        generalize nth M (o + 8 + j) = y at *
        go_wp2
        go_round
        case rel => exact ⟨j + 1, by omega, by go_num, x + 1, by go_num, hs.out.symm⟩
        case measure => simp [intOf]; omega
      · have hs : Hid (So.namesTo M o i (j + 1) = x) := by show _ = _; unfold So.namesTo; rw [if_neg he, hx.out]; rfl
        have eB : (nth M (o + 8 + j) == i) = false := by simpa using he
        have HE := Lib.hid he
        clear he
        generalize nth M (o + 8 + j) = y at *
        go_wp2
        go_round
        case rel => exact ⟨j + 1, by omega, by go_num, x, rfl, hs.out.symm⟩
        case measure => simp [intOf]; omega
    · have e : j = 12 := by omega
      subst e
      go_wp2
      go_ret
      exact ⟨ret_int (by rw [hx.out]; rfl), rfl⟩
theorem so_inode (i : Int) (w : World) : Calls Tryd.prog 47 #[.int .i64 i] w fun e w' => e = .returned (.bool (decide (0 ≤ i ∧ i ≤ 7))) ∧ w = w' := by
  go_enter Tryd.func47, Tryd.ntmps47
  go_wp2_with (go_at_call 34; (with_reducible refine useC (within_any _ _ _ _) ?_); rintro e w' ⟨rfl, rfl⟩)
  go_ret
  exact ⟨ret_bool (by simp), rfl⟩
theorem so_entry (i : Int) (w : World) : Calls Tryd.prog 45 #[.int .i64 i] w fun e w' => e = .returned (.bool (decide (0 ≤ i ∧ i ≤ 11))) ∧ w = w' := by
  go_enter Tryd.func45, Tryd.ntmps45
  go_wp2_with (go_at_call 34; (with_reducible refine useC (within_any _ _ _ _) ?_); rintro e w' ⟨rfl, rfl⟩)
  go_ret
  exact ⟨ret_bool (by simp), rfl⟩
theorem so_inode_is (i : Int) (c : Bool) (h : decide (0 ≤ i ∧ i ≤ 7) = c) (w : World) : Calls Tryd.prog 47 #[.int .i64 i] w fun e w' => e = .returned (.bool c) ∧ w = w' := h ▸ so_inode i w
theorem so_entry_is (i : Int) (c : Bool) (h : decide (0 ≤ i ∧ i ≤ 11) = c) (w : World) : Calls Tryd.prog 45 #[.int .i64 i] w fun e w' => e = .returned (.bool c) ∧ w = w' := h ▸ so_entry i w

set_option maxRecDepth 100000 in
theorem so_link (w : World) (b : Nat) (L : List Int) (e i : Int) (hD : SoD w b L) (hS : So.Shp L) (hB : ∀ j : Nat, j < 8 → nth L (20 + j) ≤ 1000000 ∧ -1000000 ≤ nth L (20 + j)) :
    Calls Tryd.prog 41 #[.pointer (some ⟨b, 0, none⟩), .int .i64 e, .int .i64 i] w (SoAns b (errV (So.link L e i).2) (So.link L e i).1 w) := by
  have HD := Lib.hid hD
  by_cases he : 0 ≤ e ∧ e ≤ 11
  · have e1 : decide (0 ≤ e ∧ e ≤ 11) = true := decide_eq_true he
    by_cases hi : 0 ≤ i ∧ i ≤ 7
    · have e2 : decide (0 ≤ i ∧ i ≤ 7) = true := decide_eq_true hi
      obtain ⟨n, rfl⟩ : ∃ n : Nat, e = n := ⟨e.toNat, by omega⟩
      obtain ⟨j, rfl⟩ : ∃ j : Nat, i = j := ⟨i.toNat, by omega⟩
      have hn : n < 12 := by omega
      have hj : j < 8 := by omega
      have hnb : ¬ So.bad n j := by unfold So.bad; omega
      have hc := hD.cell (i := 28 + n) (by rw [hS.len]; omega)
      have hf := hD.free (28 + n)
      have hf2 := fun x => (hD.put (28 + n) x).free (20 + j)
      have hc2 : ∀ x, (w.setCell ⟨b, 28 + n, none⟩ (.int .i64 x)).drew.cell? ⟨b, 20 + j, none⟩ = some (.int .i64 (nth L (20 + j))) := fun x => by
        have := (hD.put (28 + n) x).cell (i := 20 + j) (by rw [List.length_set, hS.len]; omega)
        rw [So.nth_set _ _ _ _ (by rw [hS.len]; omega), if_neg (by omega)] at this
        exact this
      obtain ⟨hb1, hb2⟩ := hB j hj
      have hn12 : (n : Int) < 12 := by omega
      have hj8 : (j : Int) < 8 := by omega
      by_cases h0 : 0 ≤ nth L (28 + n)
      · have er := Lib.hid (show So.link L n j = (L, 6) from by unfold So.link; rw [if_neg hnb]; simp only [Int.toNat_natCast]; rw [if_pos h0])
        generalize nth L (28 + n) = x at *
        clear he hi hD hS hB hnb hc2 hf2 hb1 hb2
        generalize nth L (20 + j) = y at *
        go_enter Tryd.func41, Tryd.ntmps41
        go_wp2_with (first
          | (go_at_call 45; (with_reducible refine useC (so_entry_is _ _ e1 _) ?_); rintro e w' ⟨rfl, rfl⟩)
          | (go_at_call 47; (with_reducible refine useC (so_inode_is _ _ e2 _) ?_); rintro e w' ⟨rfl, rfl⟩))
        go_ret
        rw [er.out]
        exact ⟨rfl, HD.out, Fr.refl _ _⟩
      · have er := Lib.hid (show So.link L n j = ((L.set (28 + n) j).set (20 + j) (nth L (20 + j) + 1), 0) from by unfold So.link; rw [if_neg hnb]; simp only [Int.toNat_natCast]; rw [if_neg h0])
        have h0' : nth L (28 + n) < 0 := by omega
        generalize nth L (28 + n) = x at *
        generalize hy : nth L (20 + j) = y at *
        clear he hi hD hS hB hnb hy h0
        go_enter Tryd.func41, Tryd.ntmps41
        go_wp2_with (first
          | (go_at_call 45; (with_reducible refine useC (so_entry_is _ _ e1 _) ?_); rintro e w' ⟨rfl, rfl⟩)
          | (go_at_call 47; (with_reducible refine useC (so_inode_is _ _ e2 _) ?_); rintro e w' ⟨rfl, rfl⟩))
        (refine wp_region_mixq 11 [(true, 0), (true, 1), (true, 2), (true, 3), (true, 4), (true, 5), (true, 6), (true, 7), (true, 8), (true, 9), (true, 10)] (by kernel_rfl) (by kernel_rfl) ?_; simp only [pickOps, List.map_cons, List.map_nil, List.getD_cons_zero, List.getD_cons_succ, List.drop_succ_cons, List.drop_zero]; (iterate 11 (first | (refine wpMix_take (v := ?_) (by rfl) ?_ ?_; rotate_left; (focus (intro W hW; subst hW; go_simp; (try with_reducible rfl); done)); try simp only [Act.put, List.setIfInBounds_toArray, List.set_cons_zero, List.set_cons_succ]) | (refine wpMix_leave (by rfl) ?_; try simp only [Act.put, List.setIfInBounds_toArray, List.set_cons_zero, List.set_cons_succ]))); refine wpMix_nil ?_)
        go_wp2
        go_ret
        rw [er.out]
        exact ⟨rfl, (HD.out.put (28 + n) j).put (20 + j) (y + 1), (((Fr.refl _ _).setCell (.inl (by simp)) _).drew).setCell (.inl (by simp)) _⟩
    · have e2 : decide (0 ≤ i ∧ i ≤ 7) = false := decide_eq_false hi
      have er := Lib.hid (show So.link L e i = (L, 1) from by unfold So.link; rw [if_pos (.inr hi)])
      clear he hi hD hS hB
      go_enter Tryd.func41, Tryd.ntmps41
      go_wp2_with (first
        | (go_at_call 45; (with_reducible refine useC (so_entry_is _ _ e1 _) ?_); rintro e w' ⟨rfl, rfl⟩)
        | (go_at_call 47; (with_reducible refine useC (so_inode_is _ _ e2 _) ?_); rintro e w' ⟨rfl, rfl⟩))
      go_ret
      rw [er.out]
      exact ⟨rfl, HD.out, Fr.refl _ _⟩
  · have e1 : decide (0 ≤ e ∧ e ≤ 11) = false := decide_eq_false he
    have er := Lib.hid (show So.link L e i = (L, 1) from by unfold So.link; rw [if_pos (.inl he)])
    clear he hD hS hB
    go_enter Tryd.func41, Tryd.ntmps41
    go_wp2_with (go_at_call 45; (with_reducible refine useC (so_entry_is _ _ e1 _) ?_); rintro e w' ⟨rfl, rfl⟩)
    go_ret
    rw [er.out]
    exact ⟨rfl, HD.out, Fr.refl _ _⟩
end Go.Proofs.YtcldaaebncclmaaDoor
