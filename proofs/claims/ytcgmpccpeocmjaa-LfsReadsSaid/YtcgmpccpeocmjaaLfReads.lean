/- LfsReads: what is read is what was written last. -/
import Derived.Test.YtcgmpccpeocmjaaLfRow
import Derived.Test.YtcgmpccpeocmjaaCIn3
import Derived.Deep.OwnRows
import Derived.Test.YtcgmpccpeocmjaaMix
namespace Go.Proofs.Ytcgmpccpeocmjaa
open Go.RowKit

set_option maxRecDepth 100000 in
set_option maxHeartbeats 8000000 in
theorem lf_reads (w : World) (v : Value) (ls : List (List Int)) (p : Int) (hR : Rw w.heap.size w v ls) :
    Calls Try.prog 3 #[v, .int .i64 p] w (OkT w) := by
  obtain ⟨A, g, o, c, rfl, hm, hF⟩ := hR
  have HF := Lib.hid hF
  clear hF
  have hmk := make8
  go_enter Try.func3, Try.ntmps3
  go_wp2_with (first
    | (go_at_call 5; (with_reducible refine useC (lf_fact _) ?_); rintro e w0 ⟨rfl, hF0⟩; have HF0 := Lib.hid hF0; have hs0 := hF0.size; clear hF0)
    | (go_at_call 6; (with_reducible refine useC (lf_new _ w.heap.size hs0) ?_); rintro e w1 ⟨rfl, hD1, hF1⟩; have HD1 := Lib.hid hD1; have HF1 := Lib.hid hF1; clear hD1 hF1))
  have hst : Hid (RdSt w.heap.size w (w1.alloc (.cells (ints [0, 0, 0, 0, 0, 0, 0, 0]) 3)) w0.heap.size w1.heap.size Lf.new [0, 0, 0, 0, 0, 0, 0, 0]) :=
    ⟨HD1.out.keep ((Fr.refl _ _).alloc _), Lf.new_ok, rfl, heap_alloc_new w1 _, fun hf => Nat.lt_irrefl _ (HD1.out.footLt _ (HD1.out.footFr ((Fr.refl _ w1).alloc _) _ hf)),
      (HF0.out.trans HF1.out).size, ((HF0.out.trans HF1.out).alloc _).below, ((HF0.out.trans HF1.out).alloc _).size⟩
  have hv0 : Hid (∀ q, q < 8 → Lf.val Lf.new q = nth [0, 0, 0, 0, 0, 0, 0, 0] q) := by show ∀ q, q < 8 → _; decide
  clear HD1 HF1 HF0
  revert hst
  generalize (w1.alloc (.cells (ints [0, 0, 0, 0, 0, 0, 0, 0]) 3)) = w2
  generalize w1.heap.size = lb
  generalize w0.heap.size = b
  intro hst
  clear hs0
  go_loopw [8] (fun i wr => ∃ k : Nat, k ≤ ls.length ∧ k ≤ 80 ∧ i = .int .i64 k ∧ ∃ d last, Hid (RdSt w.heap.size w wr b lb d last) ∧ Hid (∀ q, q < 8 → Lf.val d q = nth last q)) (fun i _ => 80 - (intOf i).toNat)
  case atStart => exact ⟨0, Nat.zero_le _, Nat.zero_le _, rfl, _, _, hst, hv0⟩
  case round =>
    obtain ⟨k, hk, hk8, rfl, d, last, hS, hV⟩ := hrel
    clear hst hmk hv0
    have hsz := hS.out.size
    by_cases hin : k < ls.length ∧ k < 80
    · obtain ⟨hlt, h80⟩ := hin
      obtain ⟨rfl, hg⟩ := HF.out.1 (by omega)
      obtain ⟨u, kb, hcell, hkb, hsl, _⟩ := (HF.out.below hS.out.below).2 k hlt
      obtain ⟨A', o', c', rfl, hm', hA', hc'⟩ := hsl.form
      have i0 : (0 : Int) ≤ k := by omega
      have i1 : (k : Int) < ls.length := by omega
      have i80 : (k : Int) < 80 := by omega
      clear hsl
      by_cases hl1 : (nthR ls k).length = 1
      · have e1 : ((nthR ls k).length : Int) = 1 := by omega
        have hco := Lib.hid (Lf.clean_ok hS.out.ok)
        clear hc' hA' hl1 hkb
        go_wp2_with (go_at_call 7; (with_reducible refine useC (lf_clean _ w.heap.size b d hS.out.disk hS.out.ok hsz) ?_); rintro e w3 hA; have he := hA.1; subst he; have HS3 := Lib.hid (hS.out.ans hA hco.out.1); clear hA)
        (refine wp_region_mixq 11 [(true, 0), (true, 1), (true, 2), (true, 3), (true, 4), (true, 5), (true, 6), (true, 7), (true, 8), (true, 9), (true, 10)] (by kernel_rfl) (by kernel_rfl) ?_; simp only [pickOps, List.map_cons, List.map_nil, List.getD_cons_zero, List.getD_cons_succ, List.drop_succ_cons, List.drop_zero, List.drop_nil]; (iterate 11 (first | (refine wpMix_take (v := ?_) (by rfl) ?_ ?_; rotate_left; (focus (intro W hW; subst hW; go_simp; (try with_reducible rfl); done)); try simp only [Act.put, List.setIfInBounds_toArray, List.set_cons_zero, List.set_cons_succ]) | (refine wpMix_leave (by rfl) ?_; try simp only [Act.put, List.setIfInBounds_toArray, List.set_cons_zero, List.set_cons_succ]))); refine wpMix_nil ?_)
        go_wp2
        go_roundw
        case rel => exact ⟨k + 1, by omega, by omega, by go_num, _, _, HS3.out.fr ((Fr.refl _ _).drew) HS3.out.size, fun q hq => (hco.out.2 q hq).trans (hV.out q hq)⟩
        case measure => simp [intOf]; omega
      · by_cases hl2 : (nthR ls k).length = 2
        · have e1 : ((nthR ls k).length : Int) = 2 := by omega
          obtain rfl := hA' (by omega)
          have c0 := hc' 0 (by omega)
          rw [Nat.add_zero] at c0
          have c1 := hc' 1 (by omega)
          have hkb' : kb < w.heap.size := hkb.resolve_right (fun h => by rw [h] at hl2; simp at hl2)
          clear hc' hA' hl1 hl2 hkb
          generalize nth (nthR ls k) 0 = x0 at c0
          generalize nth (nthR ls k) 1 = x1 at c1
          have HC : Hid (∀ W, Below w.heap.size wr.drew W → W.cell? ⟨kb, o', none⟩ = some (.int .i64 x0) ∧ W.cell? ⟨kb, o' + 1, none⟩ = some (.int .i64 x1)) := fun W hW => ⟨(hW.cell (p := ⟨kb, o', none⟩) hkb').trans c0, (hW.cell (p := ⟨kb, o' + 1, none⟩) hkb').trans c1⟩
          have HDR : Hid (RdSt w.heap.size w wr.drew b lb d last) := hS.out.fr ((Fr.refl _ _).drew) hsz
          have HWR := Lib.hid (lf_write wr.drew w.heap.size b d x0 x1 HDR.out.disk HDR.out.ok HDR.out.size)
          have HWK := Lib.hid (Lf.write_ok hS.out.ok x0 x1)
          by_cases hz : (Lf.write d x0 x1).2 = 0
          · have hok : Lf.okP x0 x1 := by
              have hwe := HWK.out.2.1
              rw [hz] at hwe
              by_cases h : Lf.okP x0 x1
              · exact h
              · rw [if_neg h] at hwe; omega
            have e3 : decide (0 ≤ x0 ∧ x0 ≤ 7) = true := decide_eq_true hok.1
            have e4 := Lib.hid (show errV (Lf.write d x0 x1).2 = .nilIface from by rw [hz]; rfl)
            have HZ := Lib.hid hz
            obtain ⟨q, rfl⟩ : ∃ q : Nat, x0 = (q : Int) := ⟨x0.toNat, by have := hok.1; omega⟩
            have hq8 : q < 8 := by have := hok.1.2; omega
            clear hz hok
            go_wp2
            (refine wp_region_mixq 11 [(true, 0), (true, 1), (true, 2), (true, 3), (true, 4), (true, 5), (true, 6), (true, 7), (true, 8), (true, 9), (true, 10)] (by kernel_rfl) (by kernel_rfl) ?_; simp only [pickOps, List.map_cons, List.map_nil, List.getD_cons_zero, List.getD_cons_succ, List.drop_succ_cons, List.drop_zero, List.drop_nil]; (iterate 11 (first | (refine wpMix_take (v := ?_) (by rfl) ?_ ?_; rotate_left; (focus (intro W hW; subst hW; go_simp; (try with_reducible rfl); done)); try simp only [Act.put, List.setIfInBounds_toArray, List.set_cons_zero, List.set_cons_succ]) | (refine wpMix_leave (by rfl) ?_; try simp only [Act.put, List.setIfInBounds_toArray, List.set_cons_zero, List.set_cons_succ]))); refine wpMix_nil ?_)
            go_wp2_with (first
              | (go_at_call 8; (with_reducible refine useC HWR.out ?_); rintro e w3 hA; have he := hA.1; subst he; rw [e4.out]; have HS3 := Lib.hid (HDR.out.ans hA HWK.out.1); have hc2 := (HC.out w3 hA.2.2.1).1; have hc3 := (HC.out w3 hA.2.2.1).2; clear hA)
              | (go_at_call 9; (with_reducible refine useC (in3_is _ _ _ true _ e3) ?_); rintro e w3 ⟨rfl, rfl⟩))
            have hfz := free_block HS3.out.row q none
            have hcq := cell_ints HS3.out.row (i := q) (by rw [HS3.out.len]; exact hq8)
            (refine wp_region_mixq 7 [(true, 0), (true, 1), (true, 2), (true, 3), (true, 4), (true, 5), (true, 6)] (by kernel_rfl) (by kernel_rfl) ?_; simp only [pickOps, List.map_cons, List.map_nil, List.getD_cons_zero, List.getD_cons_succ, List.drop_succ_cons, List.drop_zero, List.drop_nil]; (iterate 7 (first | (refine wpMix_take (v := ?_) (by rfl) ?_ ?_; rotate_left; (focus (intro W hW; subst hW; go_simp; (try with_reducible rfl); done)); try simp only [Act.put, List.setIfInBounds_toArray, List.set_cons_zero, List.set_cons_succ]) | (refine wpMix_leave (by rfl) ?_; try simp only [Act.put, List.setIfInBounds_toArray, List.set_cons_zero, List.set_cons_succ]))); refine wpMix_nil ?_)
            go_wp2
            go_roundw
            case rel => exact ⟨k + 1, by omega, by omega, by go_num, _, last.set q x1, (HS3.out.fr ((Fr.refl _ _).drew) HS3.out.size).put q x1, fun r hr => by
              rw [HWK.out.2.2 r hr, nth_set _ _ _ _ (by rw [HS3.out.len]; exact hq8), HZ.out, Int.toNat_natCast, hV.out r hr]; simp⟩
            case measure => simp [intOf]; omega
          · have e4 := Lib.hid (errV_no hz)
            have HZ := Lib.hid hz
            clear hz
            go_wp2
            (refine wp_region_mixq 11 [(true, 0), (true, 1), (true, 2), (true, 3), (true, 4), (true, 5), (true, 6), (true, 7), (true, 8), (true, 9), (true, 10)] (by kernel_rfl) (by kernel_rfl) ?_; simp only [pickOps, List.map_cons, List.map_nil, List.getD_cons_zero, List.getD_cons_succ, List.drop_succ_cons, List.drop_zero, List.drop_nil]; (iterate 11 (first | (refine wpMix_take (v := ?_) (by rfl) ?_ ?_; rotate_left; (focus (intro W hW; subst hW; go_simp; (try with_reducible rfl); done)); try simp only [Act.put, List.setIfInBounds_toArray, List.set_cons_zero, List.set_cons_succ]) | (refine wpMix_leave (by rfl) ?_; try simp only [Act.put, List.setIfInBounds_toArray, List.set_cons_zero, List.set_cons_succ]))); refine wpMix_nil ?_)
            go_wp2_with (go_at_call 8; (with_reducible refine useC HWR.out ?_); rintro e w3 hA; have he := hA.1; subst he; rw [e4.out]; have HS3 := Lib.hid (HDR.out.ans hA HWK.out.1); clear hA)
            go_roundw
            case rel => exact ⟨k + 1, by omega, by omega, by go_num, _, last, HS3, fun r hr => by rw [HWK.out.2.2 r hr, if_neg (fun h => HZ.out h.1)]; exact hV.out r hr⟩
            case measure => simp [intOf]; omega
        · have e1 : (((nthR ls k).length : Int) == 1) = false := by simp; omega
          have e2 : (((nthR ls k).length : Int) == 2) = false := by simp; omega
          clear hc' hA' hl1 hl2 hkb
          go_wp2
          (refine wp_region_mixq 11 [(true, 0), (true, 1), (true, 2), (true, 3), (true, 4), (true, 5), (true, 6), (true, 7), (true, 8), (true, 9), (true, 10)] (by kernel_rfl) (by kernel_rfl) ?_; simp only [pickOps, List.map_cons, List.map_nil, List.getD_cons_zero, List.getD_cons_succ, List.drop_succ_cons, List.drop_zero, List.drop_nil]; (iterate 11 (first | (refine wpMix_take (v := ?_) (by rfl) ?_ ?_; rotate_left; (focus (intro W hW; subst hW; go_simp; (try with_reducible rfl); done)); try simp only [Act.put, List.setIfInBounds_toArray, List.set_cons_zero, List.set_cons_succ]) | (refine wpMix_leave (by rfl) ?_; try simp only [Act.put, List.setIfInBounds_toArray, List.set_cons_zero, List.set_cons_succ]))); refine wpMix_nil ?_)
          go_wp2
          go_roundw
          case rel => exact ⟨k + 1, by omega, by omega, by go_num, _, _, hS.out.fr ((Fr.refl _ _).drew) hsz, hV⟩
          case measure => simp [intOf]; omega
    · have hout : ¬ (k : Int) < ls.length ∨ ((k : Int) < ls.length ∧ ¬ (k : Int) < 80) := by omega
      have HRD := Lib.hid (lf_read wr w.heap.size b d p hS.out.disk hS.out.ok)
      by_cases hp : 0 ≤ p ∧ p ≤ 7
      · have e3 : decide (0 ≤ p ∧ p ≤ 7) = true := decide_eq_true hp
        obtain ⟨q, rfl⟩ : ∃ q : Nat, p = (q : Int) := ⟨p.toNat, by omega⟩
        have hq8 : q < 8 := by omega
        have ea := Lib.hid (show readAns d q = .tuple #[.int .i64 (nth last q), .nilIface] from by unfold readAns; rw [if_pos hp, Int.toNat_natCast, hV.out q hq8])
        clear hp
        rcases hout with hout | ⟨hout, hout'⟩
        all_goals
          go_wp2_with (first
            | (go_at_call 10; (with_reducible refine useC HRD.out ?_); rintro e w3 ⟨rfl, hf3⟩; rw [ea.out]; have HS3 := Lib.hid (hS.out.fr hf3 hsz); have hcq := cell_ints HS3.out.row (i := q) (by rw [HS3.out.len]; exact hq8); clear hf3)
            | (go_at_call 9; (with_reducible refine useC (in3_is _ _ _ true _ e3) ?_); rintro e w3 ⟨rfl, rfl⟩))
          go_ret
          exact ⟨ret_bool (by simp), Fr.of_below HS3.out.below⟩
      · have e3 : decide (0 ≤ p ∧ p ≤ 7) = false := decide_eq_false hp
        have ea := Lib.hid (show readAns d p = .tuple #[.int .i64 0, .iface 47 (.int .i64 1)] from by unfold readAns; rw [if_neg hp])
        clear hp
        rcases hout with hout | ⟨hout, hout'⟩
        all_goals
          go_wp2_with (first
            | (go_at_call 10; (with_reducible refine useC HRD.out ?_); rintro e w3 ⟨rfl, hf3⟩; rw [ea.out]; have HS3 := Lib.hid (hS.out.fr hf3 hsz); clear hf3)
            | (go_at_call 9; (with_reducible refine useC (in3_is _ _ _ false _ e3) ?_); rintro e w3 ⟨rfl, rfl⟩))
          go_ret
          exact ⟨rfl, Fr.of_below HS3.out.below⟩
end Go.Proofs.Ytcgmpccpeocmjaa
