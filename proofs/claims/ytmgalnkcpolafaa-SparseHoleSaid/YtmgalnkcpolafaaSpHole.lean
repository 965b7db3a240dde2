/- SparseHole: a hole is noughts; blocks rise, and begin within the file. -/
import Derived.Test.YtmgalnkcpolafaaSpBack
import Derived.Test.YtmgalnkcpolafaaCHas
import Derived.Test.YtmgalnkcpolafaaCIn2
import Derived.IntWalk
namespace Go.Proofs.Ytmgalnkcpolafaa
open Go.RowKit

namespace Sp
theorem hole {f : F} (h : OK f) {i : Nat} (hi : i < f.size) (hn : nth (readL f 0 64) i ≠ 0) : hasB (blocks f.blk 16) ((i / 4 : Nat) : Int) = true := by
  unfold hasB
  rw [List.contains_iff_mem, blocks_mem]
  have := h.size
  refine ⟨i / 4, by omega, ?_, rfl⟩
  rw [readL_nth h hi] at hn
  exact (h.bit _).resolve_left (fun h0 => hn (h.zero i (.inl h0)))
theorem block_at {f : F} (h : OK f) {k : Nat} (hk : k < (blocks f.blk 16).length) : ∃ i : Nat, nth (blocks f.blk 16) k = i ∧ i < 16 ∧ 4 * i < f.size := by
  have hm : nth (blocks f.blk 16) k ∈ blocks f.blk 16 := by simp [nth, List.getD, hk]
  obtain ⟨i, h1, h2, h3⟩ := blocks_mem.1 hm
  exact ⟨i, h3, h1, h.low i h2⟩
theorem block_rise (f : F) {k : Nat} (h0 : 0 < k) (hk : k < (blocks f.blk 16).length) : nth (blocks f.blk 16) (k - 1) < nth (blocks f.blk 16) k := by
  have := List.pairwise_iff_getElem.1 (blocks_rise f.blk 16) (k - 1) k (by omega) hk (by omega)
  simpa [nth, List.getD, hk, show k - 1 < (blocks f.blk 16).length by omega] using this
end Sp
set_option maxRecDepth 100000 in
set_option maxHeartbeats 4000000 in
theorem sp_hole (w : World) (v : Value) (ls : List (List Int)) (hR : Rw w.heap.size w v ls) :
    Calls Try.prog 6 #[v] w (OkT w) := by
  have HR := Lib.hid hR
  clear hR
  go_enter Try.func6, Try.ntmps6
  go_wp2_with (first
    | (go_at_call 15; (with_reducible refine useC (sp_fact _) ?_); rintro e w1 ⟨rfl, hf⟩; have HF1 := Lib.hid hf; have HR1 : Hid (Rw w1.heap.size w1 v ls) := (HR.out.mono1 hf); clear hf)
    | (go_at_call 16; (with_reducible refine useC (sp_written _ w1.heap.size v ls HR1.out (Nat.le_refl _)) ?_); rintro e w2 ⟨b, f, rfl, hs, ho, hb, hz⟩; have HS2 := Lib.hid hs; have HO := Lib.hid ho; have HF2 := Lib.hid (HF1.out.trans (Fr.of_below hb)); clear hs ho hb hz)
    | (go_at_call 17; (with_reducible refine useC (sp_Read_ok w2 _ _ _ f HS2.out HO.out 0 64 (by decide) (by decide)) ?_); rintro e w3 ⟨vw, rfl, how, hf⟩; obtain ⟨gw, hgw, hsw⟩ := how.sl; obtain ⟨Aw, ow, cw, rfl, -, hAw, hcw⟩ := hsw.form; rw [Sp.readL_len HO.out] at hAw hcw ⊢; have HAW := Lib.hid hAw; have HCW := Lib.hid hcw; have HS3 := Lib.hid (HS2.out.keep hf); have HF3 := Lib.hid (HF2.out.trans hf); clear hf hgw hsw hAw hcw how)
    | (go_at_call 21; (with_reducible refine useC (sp_Blocks w3 _ _ _ f HS3.out) ?_); rintro e w4 ⟨vb, rfl, hob, hf⟩; obtain ⟨gb, hgb, hsb⟩ := hob.sl; have HSB := Lib.hid hsb; obtain ⟨Ab, ob, cb, rfl, -, hAb, hcb⟩ := hsb.form; have HAB := Lib.hid hAb; have HCB := Lib.hid hcb; have HS4 := Lib.hid (HS3.out.keep hf); have HF34 := Lib.hid hf; have HF4 := Lib.hid (HF3.out.trans hf); have hbl := Sp.blocks_len f.blk 16; clear hf hgb hsb hAb hcb hob))
  have hs64 := HO.out.size
  have HHL := Lib.hid (fun i hi hn => Sp.hole HO.out (i := i) hi hn)
  go_loop [8] (fun i => ∃ k : Nat, k ≤ f.size ∧ i = .int .i64 k) (fun i => f.size - (intOf i).toNat)
  case atStart => exact ⟨0, Nat.zero_le _, rfl⟩
  case round =>
    obtain ⟨k, hk, rfl⟩ := hrel
    by_cases hlt : k < f.size
    · obtain rfl := HAW.out (by omega)
      have hci := HF34.out.cell (HCW.out k hlt) (by simp)
      have i1 : (k : Int) < f.size := by omega
      have HH := Lib.hid (HHL.out k hlt)
      generalize nth (Sp.readL f 0 64) k = y at *
      by_cases hy : y = 0
      · have e1 : (y != 0) = false := by simp [hy]
        clear hy
        go_wp2
        go_round
        case rel => exact ⟨k + 1, by omega, by go_num⟩
        case measure => simp [intOf]; omega
      · have e1 : (y != 0) = true := by simp [hy]
        have HB := Lib.hid (HH.out hy)
        obtain ⟨q, hq⟩ : ∃ q : Nat, k / 4 = q := ⟨_, rfl⟩
        have q1 : (k : Int) / 4 = (q : Int) := by omega
        rw [hq] at HB
        clear hy hq
        go_wp2_with (go_at_call 22; (with_reducible refine useC (has_any _ _ _ _ _ HSB.out) ?_); rw [HB.out]; rintro e w5 ⟨rfl, rfl⟩)
        go_round
        case rel => exact ⟨k + 1, by omega, by go_num⟩
        case measure => simp [intOf]; omega
    · have i1 : ¬ (k : Int) < f.size := by omega
      clear HCW HAW
      go_wp2
      have HBA := Lib.hid (fun k hk => Sp.block_at HO.out (k := k) hk)
      have HBR := Lib.hid (fun k h0 hk => Sp.block_rise f (k := k) h0 hk)
      go_loopw [9] (fun i wr => ∃ k : Nat, k ≤ (Sp.blocks f.blk 16).length ∧ i = .int .i64 k ∧ Hid (Fr [] w4 wr)) (fun i _ => (Sp.blocks f.blk 16).length - (intOf i).toNat)
      case atStart => exact ⟨0, Nat.zero_le _, rfl, Fr.refl _ _⟩
      case round =>
        obtain ⟨j, hj, rfl, hF⟩ := hrel
        by_cases hlj : j < (Sp.blocks f.blk 16).length
        · obtain rfl := HAB.out (by omega)
          obtain ⟨i, hi, hi16, hi4⟩ := HBA.out j hlj
          have hcb := fun q (hq : q < (Sp.blocks f.blk 16).length) => hF.out.drew.cell (HCB.out q hq) (by simp)
          have cj := hcb j hlj
          rw [hi] at cj
          have w1 : IntKind.i64.wrap ((i : Int) * 4) = (i : Int) * 4 := IntWalk.i64_in _ (by omega)
          have z1 : decide ((0 : Int) ≤ i ∧ (i : Int) ≤ 15) = true := decide_eq_true (by omega)
          have z2 : decide ((f.size : Int) ≤ (i : Int) * 4) = false := decide_eq_false (by omega)
          have z3 : ¬ (f.size : Int) ≤ (i : Int) * 4 := by omega
          have j1 : (j : Int) < (Sp.blocks f.blk 16).length := by omega
          have HSZ := Lib.hid (sp_Size wr.drew _ b 2560 f (HS4.out.keep hF.out.drew))
          have HRI := Lib.hid (fun h0 => HBR.out j h0 hlj)
          clear hi16 hi4
          by_cases hj0 : j = 0
          · have t1 : decide ((0 : Int) < (j : Int)) = false := decide_eq_false (by omega)
            have t2 : decide (0 < j) = false := decide_eq_false (by omega)
            have t3 : ¬ 0 < j := by omega
            have HJ := Lib.hid hj0
            clear hj0 hcb hi
            go_wp2
            (refine wp_region_mix (· = wr.drew) 30 [(true, 0), (true, 1), (true, 2), (true, 3), (false, 4), (true, 5), (true, 6), (true, 7), (true, 8), (true, 9), (true, 10), (true, 11), (true, 12), (true, 13), (true, 14), (true, 15), (true, 16), (true, 17), (true, 18), (true, 19), (true, 20), (true, 21), (true, 22), (true, 23), (true, 24), (true, 25), (true, 26), (true, 27), (true, 28), (false, 29)] (by kernel_rfl) (by kernel_rfl) (rfl) ?_; simp only [pickOps, List.map_cons, List.map_nil, List.getD_cons_zero, List.getD_cons_succ, List.drop_succ_cons, List.drop_zero])
            (iterate 4 (first | (refine wpMix_take (v := ?_) (by rfl) ?_ ?_; rotate_left; (focus (intro W hW; subst hW; go_simp; (try with_reducible rfl); done)); try simp only [Act.put, List.setIfInBounds_toArray, List.set_cons_zero, List.set_cons_succ]) | (refine wpMix_leave (by rfl) ?_; try simp only [Act.put, List.setIfInBounds_toArray, List.set_cons_zero, List.set_cons_succ])))
            refine wpMix_walk ?_
            go_wp2_with (go_at_call 23; (with_reducible refine useC (in2_is _ _ _ true _ z1) ?_); rintro e w5 ⟨rfl, rfl⟩)
            refine MixQ.mk (rfl) ?_
            (iterate 24 (first | (refine wpMix_take (v := ?_) (by rfl) ?_ ?_; rotate_left; (focus (intro W hW; subst hW; go_simp; (try with_reducible rfl); done)); try simp only [Act.put, List.setIfInBounds_toArray, List.set_cons_zero, List.set_cons_succ]) | (refine wpMix_leave (by rfl) ?_; try simp only [Act.put, List.setIfInBounds_toArray, List.set_cons_zero, List.set_cons_succ])))
            refine wpMix_walk ?_
            go_wp2_with (go_at_call 18; (with_reducible refine useC HSZ.out ?_); rintro e w6 ⟨rfl, rfl⟩)
            refine MixQ.mk (rfl) ?_
            refine wpMix_nil ?_
            go_wp2
            go_roundw
            case rel => exact ⟨j + 1, by omega, by go_num, hF.out.drew⟩
            case measure => simp [intOf]; omega
          · obtain ⟨q, hq⟩ : ∃ q : Nat, j = q + 1 := ⟨j - 1, by omega⟩
            have cq := hcb q (by omega)
            have HRJ := HRI.out (by omega)
            rw [show j - 1 = q by omega, hi] at HRJ
            have t1 : decide ((0 : Int) < (j : Int)) = true := decide_eq_true (by omega)
            have t2 : decide (0 < j) = true := decide_eq_true (by omega)
            have t3 : 0 < j := by omega
            have q1 : IntKind.i64.wrap ((j : Int) - 1) = (q : Int) := by rw [IntWalk.i64_in _ (by omega)]; omega
            have q2 : (q : Int) < (Sp.blocks f.blk 16).length := by omega
            have q3 : (0 : Int) ≤ (q : Int) := by omega
            generalize nth (Sp.blocks f.blk 16) q = y at *
            have t4 : decide ((i : Int) ≤ y) = false := decide_eq_false (by omega)
            have t5 : ¬ (i : Int) ≤ y := by omega
            clear hj0 hcb hi hq
            go_wp2
            (refine wp_region_mix (· = wr.drew) 30 [(true, 0), (true, 1), (true, 2), (true, 3), (false, 4), (true, 5), (true, 6), (true, 7), (true, 8), (true, 9), (true, 10), (true, 11), (true, 12), (true, 13), (true, 14), (true, 15), (true, 16), (true, 17), (true, 18), (true, 19), (true, 20), (true, 21), (true, 22), (true, 23), (true, 24), (true, 25), (true, 26), (true, 27), (true, 28), (false, 29)] (by kernel_rfl) (by kernel_rfl) (rfl) ?_; simp only [pickOps, List.map_cons, List.map_nil, List.getD_cons_zero, List.getD_cons_succ, List.drop_succ_cons, List.drop_zero])
            (iterate 4 (first | (refine wpMix_take (v := ?_) (by rfl) ?_ ?_; rotate_left; (focus (intro W hW; subst hW; go_simp; (try with_reducible rfl); done)); try simp only [Act.put, List.setIfInBounds_toArray, List.set_cons_zero, List.set_cons_succ]) | (refine wpMix_leave (by rfl) ?_; try simp only [Act.put, List.setIfInBounds_toArray, List.set_cons_zero, List.set_cons_succ])))
            refine wpMix_walk ?_
            go_wp2_with (go_at_call 23; (with_reducible refine useC (in2_is _ _ _ true _ z1) ?_); rintro e w5 ⟨rfl, rfl⟩)
            refine MixQ.mk (rfl) ?_
            (iterate 24 (first | (refine wpMix_take (v := ?_) (by rfl) ?_ ?_; rotate_left; (focus (intro W hW; subst hW; go_simp; (try with_reducible rfl); done)); try simp only [Act.put, List.setIfInBounds_toArray, List.set_cons_zero, List.set_cons_succ]) | (refine wpMix_leave (by rfl) ?_; try simp only [Act.put, List.setIfInBounds_toArray, List.set_cons_zero, List.set_cons_succ])))
            refine wpMix_walk ?_
            go_wp2_with (go_at_call 18; (with_reducible refine useC HSZ.out ?_); rintro e w6 ⟨rfl, rfl⟩)
            refine MixQ.mk (rfl) ?_
            refine wpMix_nil ?_
            go_wp2
            go_roundw
            case rel => exact ⟨j + 1, by omega, by go_num, hF.out.drew⟩
            case measure => simp [intOf]; omega
        · have j1 : ¬ (j : Int) < (Sp.blocks f.blk 16).length := by omega
          go_wp2
          go_ret
          exact ⟨rfl, HF4.out.trans hF.out⟩
end Go.Proofs.Ytmgalnkcpolafaa
