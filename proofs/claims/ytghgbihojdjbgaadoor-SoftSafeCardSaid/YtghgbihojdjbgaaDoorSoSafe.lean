/- SoftSafe: nothing on the disk points to what is not there. -/
import Derived.Test.YtghgbihojdjbgaaDoorSoLaw
import Derived.Test.YtghgbihojdjbgaaDoorRw2
namespace Go.Proofs.YtghgbihojdjbgaaDoor
open Go.RowKit

set_option maxRecDepth 100000 in
set_option maxHeartbeats 4000000 in
theorem so_safe (w : World) (v : Value) (ls : List (List Int)) (hR : Rw w.heap.size w v ls) (hE : ErrType w) (hpos : 0 < w.heap.size) :
    Calls Tryd.prog 4 #[v] w (OkT w) := by
  have HR := Lib.hid hR
  have HE := Lib.hid hE
  have HP := Lib.hid hpos
  clear hR hE hpos
  go_enter Tryd.func4, Tryd.ntmps4
  go_wp2_with (first
    | (go_at_call 7; (with_reducible refine useC (so_fact _ HE.out HP.out) ?_); rintro e w1 ⟨rfl, hf⟩; have HF1 := Lib.hid hf; have HR1 : Hid (Rw w1.heap.size w1 v ls) := (HR.out.mono1 hf); clear hf)
    | (go_at_call 14; (with_reducible refine useC (so_softened _ v ls HR1.out) ?_); rintro e w2 ⟨b, L, rfl, hs⟩; have HS := Lib.hid hs; clear hs)
    | (go_at_call 12; (with_reducible refine useC (so_Images _ b L HS.out.disk HS.out.ok.shp.len) ?_); rintro e w5 ⟨v1, v2, v3, v4, g1, g2, g3, g4, rfl, hs1, hs2, hs3, hs4, hf, _⟩; have HF5 := Lib.hid ((HF1.out.trans HS.out.fr).trans hf); have HS3 := Lib.hid hs3; have HS4 := Lib.hid hs4; obtain ⟨A3, o3, c3, rfl, _, hA3, hc3⟩ := hs3.form; obtain ⟨A4, o4, c4, rfl, _, _, _⟩ := hs4.form; have l3 := part_len (L := L) (o := 0) (n := 8) (by rw [HS.out.ok.shp.len]; decide); have l4 := part_len (L := L) (o := 8) (n := 12) (by rw [HS.out.ok.shp.len]; decide); rw [l3] at hA3 hc3; rw [l3, l4]; rw [l4] at HS4; have hA3 := hA3 (by omega); subst hA3; have HC3 := Lib.hid hc3; have L4 := Lib.hid l4; clear hs1 hs2 hs3 hs4 hf hc3 l3 l4 HS3))
  go_loopw [9] (fun i wr => ∃ k : Nat, k ≤ 8 ∧ i = .int .i64 k ∧ Hid (Fr [] w5 wr)) (fun i _ => 8 - (intOf i).toNat)
  case atStart => exact ⟨0, Nat.zero_le _, rfl, Fr.refl _ _⟩
  case round =>
    obtain ⟨k, hk, rfl, hF⟩ := hrel
    by_cases hlt : k < 8
    · have hk8 : (k : Int) < 8 := by omega
      have hcell := hF.out.cell (HC3.out k hlt) (by simp)
      rw [part_nth hlt, Nat.zero_add] at hcell
      have hn : (hitsTo (part L 8 12) k (part L 8 12).length : Int) ≤ nth L k := by
        rw [L4.out, show (8 : Nat) = 0 + 8 from rfl, hits_part L 0 k 12 (Nat.le_refl _)]
        exact HS.out.ok.safe k hlt
      have HN : Hid (Calls Tryd.prog 13 #[.slice A4 12 c4, .int .i64 k] wr.drew fun e w' => e = .returned (.int .i64 (hitsTo (part L 8 12) k (part L 8 12).length : Int)) ∧ wr.drew = w') := names_any wr.drew _ g4 (part L 8 12) k (HS4.out.fr hF.out.drew (by simp)) (by rw [L4.out]; decide)
      have hnb : (hitsTo (part L 8 12) k (part L 8 12).length) ≤ 12 := by have := hitsTo_le (part L 8 12) k (part L 8 12).length; rw [L4.out] at this ⊢; exact this
      generalize hitsTo (part L 8 12) (k : Int) (part L 8 12).length = m at *
      have hd : decide (nth L k < (m : Int)) = false := decide_eq_false (by omega)
      generalize nth L k = y at *
      go_wp2
      (refine wp_region_mix (· = wr.drew) 7 [(true, 0), (true, 1), (true, 2), (true, 3), (true, 4), (true, 5), (false, 6)] (by kernel_rfl) (by kernel_rfl) (rfl) ?_; simp only [pickOps, List.map_cons, List.map_nil, List.getD_cons_zero, List.getD_cons_succ, List.drop_succ_cons, List.drop_zero, List.drop_nil])
      (iterate 6 (first | (refine wpMix_take (v := ?_) (by rfl) ?_ ?_; rotate_left; (focus (intro W hW; subst hW; go_simp; (try with_reducible rfl); done)); try simp only [Act.put, List.setIfInBounds_toArray, List.set_cons_zero, List.set_cons_succ]) | (refine wpMix_leave (by rfl) ?_; try simp only [Act.put, List.setIfInBounds_toArray, List.set_cons_zero, List.set_cons_succ])))
      refine wpMix_walk ?_
      go_wp2_with (go_at_call 13; (with_reducible refine useC HN.out ?_); rintro e w' ⟨rfl, rfl⟩)
      refine MixQ.mk (rfl) ?_
      refine wpMix_nil ?_
      go_wp2
      go_roundw
      case rel => exact ⟨k + 1, by omega, by go_num, hF.out.drew⟩
      case measure => simp [intOf]; omega
    · have hk8 : k = 8 := by omega
      subst hk8
      go_wp2
      go_ret
      exact ⟨rfl, HF5.out.trans hF.out⟩
end Go.Proofs.YtghgbihojdjbgaaDoor
