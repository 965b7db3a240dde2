/- The contracts of package soft's functions: New, Images. -/
import Derived.Test.YtcldaaebncclmaaDoorSoWalk3
import Derived.Test.YtcldaaebncclmaaDoorCClone
namespace Go.Proofs.YtcldaaebncclmaaDoor
open Go.RowKit

def So.newTo : Nat → List Int
  | 0 => List.replicate 40 0
  | k + 1 => (So.newTo k).set (28 + k) (-1)
theorem So.newTo_len : ∀ k, (So.newTo k).length = 40
  | 0 => rfl
  | k + 1 => by unfold So.newTo; rw [List.length_set]; exact So.newTo_len k
set_option maxRecDepth 100000 in
theorem so_New (w : World) : Calls Tryd.prog 18 #[] w fun e w' => e = .returned (.pointer (some ⟨w.heap.size, 0, none⟩)) ∧ SoD w' w.heap.size So.new ∧ Fr [] w w' := by
  go_enter Tryd.func18, Tryd.ntmps18
  go_wp2
  have h0 : Hid (SoD (w.alloc (.cells (ints (So.newTo 0)) 81)) w.heap.size (So.newTo 0)) := heap_alloc_new w _
  have hF : Hid (Fr [] w (w.alloc (.cells (ints (So.newTo 0)) 81))) := (Fr.refl _ _).alloc _
  have e0 : (w.alloc (.cells (ints (So.newTo 0)) 81)) = (w.alloc (.cells (Array.replicate 40 (.int .i64 0)) 81)) := by kernel_rfl
  revert h0 hF
  rw [e0]
  have e1 : (Array.replicate 40 (Value.int .i64 0)) = #[.int .i64 0, .int .i64 0, .int .i64 0, .int .i64 0, .int .i64 0, .int .i64 0, .int .i64 0, .int .i64 0, .int .i64 0, .int .i64 0, .int .i64 0, .int .i64 0, .int .i64 0, .int .i64 0, .int .i64 0, .int .i64 0, .int .i64 0, .int .i64 0, .int .i64 0, .int .i64 0, .int .i64 0, .int .i64 0, .int .i64 0, .int .i64 0, .int .i64 0, .int .i64 0, .int .i64 0, .int .i64 0, .int .i64 0, .int .i64 0, .int .i64 0, .int .i64 0, .int .i64 0, .int .i64 0, .int .i64 0, .int .i64 0, .int .i64 0, .int .i64 0, .int .i64 0, .int .i64 0] := by kernel_rfl
  rw [e1]
  clear e0 e1
  generalize (w.alloc (.cells _ 81)) = w1
  intro h0 hF
  generalize htb : w.heap.size = b at *
  go_loopw [2, 5] (fun _ k wr => ∃ j : Nat, j ≤ 12 ∧ k = .int .i64 j ∧ Hid (SoD wr b (So.newTo j)) ∧ Hid (Fr [] w wr)) (fun _ k _ => 12 - (intOf k).toNat)
  case atStart => exact ⟨0, Nat.zero_le _, rfl, h0, hF⟩
  case round =>
    obtain ⟨j, hj, rfl, hD, hFr⟩ := hrel
    clear h0 hF
    by_cases hlt : j < 12
    · have hj0 : (j : Int) < 12 := by omega
      have hc := hD.out.cell (i := 28 + j) (by rw [So.newTo_len]; omega)
      have hf := hD.out.free (28 + j)
      go_wp2
      go_roundw
      case rel => exact ⟨j + 1, by omega, by go_num, hD.out.put (28 + j) (-1), hFr.out.step ((Fr.refl [b] wr).setCell (.inl (by simp)) _) (by simp; omega)⟩
      case measure => simp [intOf]; omega
    · have e : j = 12 := by omega
      subst e
      have HL0 : Hid ((((ints (So.newTo 12)).toList.drop 20).take 20).toArray = ints ((So.new.drop 20).take 20)) := by show _ = _; kernel_rfl
      have HP : Hid (((ints (So.newTo 12)).toList.take 0 ++ (ints ((So.new.drop 20).take 20)).toList ++ (ints (So.newTo 12)).toList.drop (0 + (ints ((So.new.drop 20).take 20)).size)).toArray = ints So.new) := by show _ = _; kernel_rfl
      go_wp2_with (first
        | refine wpList_load_part rfl 79 _ rfl b 20 20 rfl 81 (ints (So.newTo 12)) (0, 0) _ hD.out Tryd.underlying79 rfl (by kernel_rfl) (by rw [size_ints, So.newTo_len]; decide) _ HL0.out ?_
        | refine wpList_store_part rfl 79 _ _ rfl b 0 (ints ((So.new.drop 20).take 20)) rfl rfl 81 (ints (So.newTo 12)) hD.out (by kernel_rfl) (by rw [size_ints, size_ints, So.newTo_len]; decide) ints_one _ HP.out ?_)
      go_ret
      subst htb
      exact ⟨rfl, setRow_heap _ _ _ _ _ _ hD.out, hFr.out.step ((Fr.refl [w.heap.size] wr).setRow (.inl (by simp)) _) (by simp)⟩

/-- The four lists of Images: memory's counts and entries, the disk's. -/
def part (L : List Int) (o n : Nat) : List Int := (L.drop o).take n
theorem part_len {L : List Int} {o n : Nat} (h : o + n ≤ L.length) : (part L o n).length = n := by unfold part; rw [List.length_take, List.length_drop]; omega
theorem part_nth {L : List Int} {o n i : Nat} (h : i < n) : nth (part L o n) i = nth L (o + i) := nth_part L o n i h
theorem SoD.sl {w : World} {b : Nat} {L : List Int} (h : SoD w b L) {o n : Nat} (hl : o + n ≤ L.length) (hn : n ≤ 1000000) : Sl w (.slice (some ⟨b, o, none⟩) n n) b (part L o n) := by
  refine .inr ⟨o, n, by rw [part_len hl], by rw [part_len hl]; exact Nat.le_refl _, by unfold maxLen; omega, fun i hi => ?_⟩
  rw [part_len hl] at hi
  rw [part_nth hi]
  exact h.cell (by omega)
/-- What Images hands back. -/
def ImgAns (L : List Int) (w : World) (e : Ending) (w' : World) : Prop := ∃ v1 v2 v3 v4 g1 g2 g3 g4, e = .returned (.tuple #[v1, v2, v3, v4]) ∧ Sl w' v1 g1 (part L 20 8) ∧ Sl w' v2 g2 (part L 28 12) ∧ Sl w' v3 g3 (part L 0 8) ∧ Sl w' v4 g4 (part L 8 12) ∧ Fr [] w w' ∧ (w.heap.size ≤ g1 ∧ w.heap.size ≤ g2 ∧ w.heap.size ≤ g3 ∧ w.heap.size ≤ g4)
set_option maxRecDepth 100000 in
theorem so_Images (w : World) (b : Nat) (L : List Int) (hD : SoD w b L) (hl : L.length = 40) :
    Calls Tryd.prog 25 #[.pointer (some ⟨b, 0, none⟩)] w (ImgAns L w) := by
  have HNE : Hid (∀ o n : Nat, o + n ≤ 40 → 0 < n → part L o n ≠ []) := fun o n ho hn h => by have := part_len (L := L) (o := o) (n := n) (by rw [hl]; exact ho); rw [h] at this; simp at this; omega
  have HC := Lib.hid (fun (o n : Nat) (ho : o + n ≤ 40) W (hW : Fr [] w W) => clone_any W _ b (part L o n) ((hD.fr hW (by simp)).sl (o := o) (n := n) (by rw [hl]; exact ho) (by omega)) (by rw [part_len (by rw [hl]; exact ho)]; omega))
  clear hD hl
  go_enter Tryd.func25, Tryd.ntmps25
  go_wp2
  (refine wp_region_mix (Fr [] w ·) 23 [(true, 0), (true, 1), (true, 2), (true, 3), (true, 4), (true, 6), (true, 7), (true, 8), (true, 9), (true, 10), (true, 12), (true, 13), (true, 14), (true, 15), (true, 16), (true, 18), (true, 19), (true, 20), (true, 21), (true, 22), (false, 5), (false, 11), (false, 17)] (by kernel_rfl) (by kernel_rfl) ((Fr.refl _ _).drew) ?_; simp only [pickOps, List.map_cons, List.map_nil, List.getD_cons_zero, List.getD_cons_succ, List.drop_succ_cons, List.drop_zero])
  (iterate 20 (first | (refine wpMix_take (v := ?_) (by rfl) ?_ ?_; rotate_left; (focus (intro W hW; skip; go_simp; (try with_reducible rfl); done)); try simp only [Act.put, List.setIfInBounds_toArray, List.set_cons_zero, List.set_cons_succ]) | (refine wpMix_leave (by rfl) ?_; try simp only [Act.put, List.setIfInBounds_toArray, List.set_cons_zero, List.set_cons_succ])))
  refine wpMix_walk ?_
  go_wp2_with (go_at_call 43; (with_reducible refine useC (HC.out 20 8 (by decide) _ ((Fr.refl _ _).drew)) ?_); rintro e w1 ⟨v1, g1, rfl, hg1, hs1, hf1⟩; have G1 := Lib.hid (Nat.le_trans (Fr.size ((Fr.refl [] w).drew)) (hg1.resolve_right (HNE.out 20 8 (by decide) (by decide)))); clear hg1; have HF1 := Lib.hid ((Fr.refl [] w).drew.trans hf1); have HS1 := Lib.hid hs1; clear hs1 hf1)
  refine MixQ.mk (HF1.out) ?_
  refine wpMix_walk ?_
  go_wp2_with (go_at_call 43; (with_reducible refine useC (HC.out 28 12 (by decide) _ HF1.out) ?_); rintro e w2 ⟨v2, g2, rfl, hg2, hs2, hf2⟩; have G2 := Lib.hid (Nat.le_trans (Fr.size (HF1.out)) (hg2.resolve_right (HNE.out 28 12 (by decide) (by decide)))); clear hg2; have HF2 := Lib.hid (HF1.out.trans hf2); have HS12 := Lib.hid (HS1.out.fr hf2 (by simp)); have HS2 := Lib.hid hs2; clear hs2 hf2)
  refine MixQ.mk (HF2.out) ?_
  refine wpMix_walk ?_
  go_wp2_with (go_at_call 43; (with_reducible refine useC (HC.out 0 8 (by decide) _ HF2.out) ?_); rintro e w3 ⟨v3, g3, rfl, hg3, hs3, hf3⟩; have G3 := Lib.hid (Nat.le_trans (Fr.size (HF2.out)) (hg3.resolve_right (HNE.out 0 8 (by decide) (by decide)))); clear hg3; have HF3 := Lib.hid (HF2.out.trans hf3); have HS13 := Lib.hid (HS12.out.fr hf3 (by simp)); have HS23 := Lib.hid (HS2.out.fr hf3 (by simp)); have HS3 := Lib.hid hs3; clear hs3 hf3)
  refine MixQ.mk (HF3.out) ?_
  refine wpMix_nil ?_
  go_wp2_with (go_at_call 43; (with_reducible refine useC (HC.out 8 12 (by decide) _ HF3.out) ?_); rintro e w4 ⟨v4, g4, rfl, hg4, hs4, hf4⟩; have G4 := Lib.hid (Nat.le_trans (Fr.size (HF3.out)) (hg4.resolve_right (HNE.out 8 12 (by decide) (by decide)))); clear hg4; have HF4 := Lib.hid (HF3.out.trans hf4); have HS14 := Lib.hid (HS13.out.fr hf4 (by simp)); have HS24 := Lib.hid (HS23.out.fr hf4 (by simp)); have HS34 := Lib.hid (HS3.out.fr hf4 (by simp)); have HS4 := Lib.hid hs4; clear hs4 hf4)
  exact bodyPost_ret (v := .tuple #[v1, v2, v3, v4]) (by simp [results, Tryd.results25, go_sem]) rfl ⟨v1, v2, v3, v4, g1, g2, g3, g4, rfl, HS14.out, HS24.out, HS34.out, HS4.out, HF4.out, G1.out, G2.out, G3.out, G4.out⟩
end Go.Proofs.YtcldaaebncclmaaDoor
