/- LfsLive: each page that was written lives once. -/
import Derived.Test.YtcgmpccpeocmjaaLfRow
import Derived.Test.YtcgmpccpeocmjaaLfPlain3
import Derived.Test.YtcgmpccpeocmjaaCSum
import Derived.Test.YtcgmpccpeocmjaaCIn3
import Derived.Deep.OwnRows
import Derived.Test.YtcgmpccpeocmjaaMix
namespace Go.Proofs.Ytcgmpccpeocmjaa
open Go.RowKit

theorem sum_count (f : Nat → Bool) : ∀ n, (((List.range n).filter f).length : Int) = sumL ((List.range n).map fun q => if f q then (1 : Int) else 0)
  | 0 => rfl
  | n + 1 => by
    rw [List.range_succ, List.filter_append, List.map_append, List.length_append, sumL_append, ← sum_count f n]
    cases h : f n <;> simp [h, sumL]
set_option maxRecDepth 100000 in
set_option maxHeartbeats 8000000 in
theorem lf_lives (w : World) (v : Value) (ls : List (List Int)) (hR : Rw w.heap.size w v ls) :
    Calls Try.prog 4 #[v] w (OkT w) := by
  obtain ⟨A, g, o, c, rfl, hm, hF⟩ := hR
  have HF := Lib.hid hF
  clear hF
  have hmk := make8
  go_enter Try.func4, Try.ntmps4
  go_wp2_with (first
    | (go_at_call 5; (with_reducible refine useC (lf_fact _) ?_); rintro e w0 ⟨rfl, hF0⟩; have HF0 := Lib.hid hF0; have hs0 := hF0.size; clear hF0)
    | (go_at_call 6; (with_reducible refine useC (lf_new _ w.heap.size hs0) ?_); rintro e w1 ⟨rfl, hD1, hF1⟩; have HD1 := Lib.hid hD1; have HF1 := Lib.hid hF1; clear hD1 hF1))
  have hst : Hid (RdSt w.heap.size w (w1.alloc (.cells (ints [0, 0, 0, 0, 0, 0, 0, 0]) 3)) w0.heap.size w1.heap.size Lf.new [0, 0, 0, 0, 0, 0, 0, 0]) :=
    ⟨HD1.out.keep ((Fr.refl _ _).alloc _), Lf.new_ok, rfl, heap_alloc_new w1 _, fun hf => Nat.lt_irrefl _ (HD1.out.footLt _ (HD1.out.footFr ((Fr.refl _ w1).alloc _) _ hf)),
      (HF0.out.trans HF1.out).size, ((HF0.out.trans HF1.out).alloc _).below, ((HF0.out.trans HF1.out).alloc _).size⟩
  have hv0 : Hid (∀ q, q < 8 → nth [0, 0, 0, 0, 0, 0, 0, 0] q = if Lf.is Lf.new q then 1 else 0) := by show ∀ q, q < 8 → _; decide
  clear HD1 HF1 HF0
  revert hst
  generalize (w1.alloc (.cells (ints [0, 0, 0, 0, 0, 0, 0, 0]) 3)) = w2
  generalize w1.heap.size = lb
  generalize w0.heap.size = b
  intro hst
  clear hs0
  go_loopw [6] (fun i wr => ∃ k : Nat, k ≤ ls.length ∧ k ≤ 80 ∧ i = .int .i64 k ∧ ∃ d last, Hid (RdSt w.heap.size w wr b lb d last) ∧ Hid (∀ q, q < 8 → nth last q = if Lf.is d q then 1 else 0)) (fun i _ => 80 - (intOf i).toNat)
  case atStart => exact ⟨0, Nat.zero_le _, Nat.zero_le _, rfl, _, _, hst, hv0⟩
  case round =>
    obtain ⟨k, hk, hk8, rfl, d, last, hS, hV⟩ := hrel
    clear hst hmk hv0
    have hsz := hS.out.size
    by_cases hin : k < ls.length ∧ k < 80
    · obtain ⟨hlt, h80⟩ := hin
      obtain ⟨rfl, hg⟩ := HF.out.1 (by omega)
      obtain ⟨u, kb, hcell, hkb, hsl, _⟩ := (HF.out.below hS.out.below).2 k hlt
      obtain ⟨A', o', c', rfl, hm', hA', hc'⟩ := hsl.form
      have i0 : (0 : Int) ≤ k := by omega
      have i1 : (k : Int) < ls.length := by omega
      have i80 : (k : Int) < 80 := by omega
      clear hsl
      by_cases hl1 : (nthR ls k).length = 1
      · have e1 : ((nthR ls k).length : Int) = 1 := by omega
        have hco := Lib.hid (Lf.clean_ok hS.out.ok)
        have hci := Lib.hid (Lf.clean_is hS.out.ok)
        clear hc' hA' hl1 hkb
        go_wp2_with (go_at_call 7; (with_reducible refine useC (lf_clean _ w.heap.size b d hS.out.disk hS.out.ok hsz) ?_); rintro e w3 hA; have he := hA.1; subst he; have HS3 := Lib.hid (hS.out.ans hA hco.out.1); clear hA)
        (refine wp_region_mixq 11 [(true, 0), (true, 1), (true, 2), (true, 3), (true, 4), (true, 5), (true, 6), (true, 7), (true, 8), (true, 9), (true, 10)] (by kernel_rfl) (by kernel_rfl) ?_; simp only [pickOps, List.map_cons, List.map_nil, List.getD_cons_zero, List.getD_cons_succ, List.drop_succ_cons, List.drop_zero, List.drop_nil]; (iterate 11 (first | (refine wpMix_take (v := ?_) (by rfl) ?_ ?_; rotate_left; (focus (intro W hW; subst hW; go_simp; (try with_reducible rfl); done)); try simp only [Act.put, List.setIfInBounds_toArray, List.set_cons_zero, List.set_cons_succ]) | (refine wpMix_leave (by rfl) ?_; try simp only [Act.put, List.setIfInBounds_toArray, List.set_cons_zero, List.set_cons_succ]))); refine wpMix_nil ?_)
        go_wp2
        go_roundw
        case rel => exact ⟨k + 1, by omega, by omega, by go_num, _, _, HS3.out.fr ((Fr.refl _ _).drew) HS3.out.size, fun q hq => by rw [hci.out]; exact hV.out q hq⟩
        case measure => simp [intOf]; omega
      · by_cases hl2 : (nthR ls k).length = 2
        · have e1 : ((nthR ls k).length : Int) = 2 := by omega
          obtain rfl := hA' (by omega)
          have c0 := hc' 0 (by omega)
          rw [Nat.add_zero] at c0
          have c1 := hc' 1 (by omega)
          have hkb' : kb < w.heap.size := hkb.resolve_right (fun h => by rw [h] at hl2; simp at hl2)
          clear hc' hA' hl1 hl2 hkb
          generalize nth (nthR ls k) 0 = x0 at c0
          generalize nth (nthR ls k) 1 = x1 at c1
          have HC : Hid (∀ W, Below w.heap.size wr.drew W → W.cell? ⟨kb, o', none⟩ = some (.int .i64 x0) ∧ W.cell? ⟨kb, o' + 1, none⟩ = some (.int .i64 x1)) := fun W hW => ⟨(hW.cell (p := ⟨kb, o', none⟩) hkb').trans c0, (hW.cell (p := ⟨kb, o' + 1, none⟩) hkb').trans c1⟩
          have HDR : Hid (RdSt w.heap.size w wr.drew b lb d last) := hS.out.fr ((Fr.refl _ _).drew) hsz
          have HWR := Lib.hid (lf_write wr.drew w.heap.size b d x0 x1 HDR.out.disk HDR.out.ok HDR.out.size)
          have HWK := Lib.hid (Lf.write_ok hS.out.ok x0 x1)
          have HWI := Lib.hid (Lf.write_is hS.out.ok x0 x1)
          by_cases hz : (Lf.write d x0 x1).2 = 0
          · have hok : Lf.okP x0 x1 := by
              have hwe := HWK.out.2.1
              rw [hz] at hwe
              by_cases h : Lf.okP x0 x1
              · exact h
              · rw [if_neg h] at hwe; omega
            have e3 : decide (0 ≤ x0 ∧ x0 ≤ 7) = true := decide_eq_true hok.1
            have e4 := Lib.hid (show errV (Lf.write d x0 x1).2 = .nilIface from by rw [hz]; rfl)
            have HZ := Lib.hid hz
            obtain ⟨q, rfl⟩ : ∃ q : Nat, x0 = (q : Int) := ⟨x0.toNat, by have := hok.1; omega⟩
            have hq8 : q < 8 := by have := hok.1.2; omega
            clear hz hok
            go_wp2
            (refine wp_region_mixq 11 [(true, 0), (true, 1), (true, 2), (true, 3), (true, 4), (true, 5), (true, 6), (true, 7), (true, 8), (true, 9), (true, 10)] (by kernel_rfl) (by kernel_rfl) ?_; simp only [pickOps, List.map_cons, List.map_nil, List.getD_cons_zero, List.getD_cons_succ, List.drop_succ_cons, List.drop_zero, List.drop_nil]; (iterate 11 (first | (refine wpMix_take (v := ?_) (by rfl) ?_ ?_; rotate_left; (focus (intro W hW; subst hW; go_simp; (try with_reducible rfl); done)); try simp only [Act.put, List.setIfInBounds_toArray, List.set_cons_zero, List.set_cons_succ]) | (refine wpMix_leave (by rfl) ?_; try simp only [Act.put, List.setIfInBounds_toArray, List.set_cons_zero, List.set_cons_succ]))); refine wpMix_nil ?_)
            go_wp2_with (first
              | (go_at_call 8; (with_reducible refine useC HWR.out ?_); rintro e w3 hA; have he := hA.1; subst he; rw [e4.out]; have HS3 := Lib.hid (HDR.out.ans hA HWK.out.1); have hc2 := (HC.out w3 hA.2.2.1).1; have hc3 := (HC.out w3 hA.2.2.1).2; have hfz := free_block HS3.out.row q none; have hcq := cell_ints HS3.out.row (i := q) (by rw [HS3.out.len]; exact hq8); clear hA)
              | (go_at_call 9; (with_reducible refine useC (in3_is _ _ _ true _ e3) ?_); rintro e w3 ⟨rfl, rfl⟩))
            go_roundw
            case rel => exact ⟨k + 1, by omega, by omega, by go_num, _, last.set q 1, HS3.out.put q 1, fun r hr => by
              rw [HWI.out r, nth_set _ _ _ _ (by rw [HS3.out.len]; exact hq8), HZ.out, Int.toNat_natCast, hV.out r hr]; by_cases e : q = r <;> simp [e]⟩
            case measure => simp [intOf]; omega
          · have e4 := Lib.hid (errV_no hz)
            have HZ := Lib.hid hz
            clear hz
            go_wp2
            (refine wp_region_mixq 11 [(true, 0), (true, 1), (true, 2), (true, 3), (true, 4), (true, 5), (true, 6), (true, 7), (true, 8), (true, 9), (true, 10)] (by kernel_rfl) (by kernel_rfl) ?_; simp only [pickOps, List.map_cons, List.map_nil, List.getD_cons_zero, List.getD_cons_succ, List.drop_succ_cons, List.drop_zero, List.drop_nil]; (iterate 11 (first | (refine wpMix_take (v := ?_) (by rfl) ?_ ?_; rotate_left; (focus (intro W hW; subst hW; go_simp; (try with_reducible rfl); done)); try simp only [Act.put, List.setIfInBounds_toArray, List.set_cons_zero, List.set_cons_succ]) | (refine wpMix_leave (by rfl) ?_; try simp only [Act.put, List.setIfInBounds_toArray, List.set_cons_zero, List.set_cons_succ]))); refine wpMix_nil ?_)
            go_wp2_with (go_at_call 8; (with_reducible refine useC HWR.out ?_); rintro e w3 hA; have he := hA.1; subst he; rw [e4.out]; have HS3 := Lib.hid (HDR.out.ans hA HWK.out.1); clear hA)
            go_roundw
            case rel => exact ⟨k + 1, by omega, by omega, by go_num, _, last, HS3, fun r hr => by rw [HWI.out r, decide_eq_false (fun h => HZ.out h.1)]; exact hV.out r hr⟩
            case measure => simp [intOf]; omega
        · have e1 : (((nthR ls k).length : Int) == 1) = false := by simp; omega
          have e2 : (((nthR ls k).length : Int) == 2) = false := by simp; omega
          clear hc' hA' hl1 hl2 hkb
          go_wp2
          (refine wp_region_mixq 11 [(true, 0), (true, 1), (true, 2), (true, 3), (true, 4), (true, 5), (true, 6), (true, 7), (true, 8), (true, 9), (true, 10)] (by kernel_rfl) (by kernel_rfl) ?_; simp only [pickOps, List.map_cons, List.map_nil, List.getD_cons_zero, List.getD_cons_succ, List.drop_succ_cons, List.drop_zero, List.drop_nil]; (iterate 11 (first | (refine wpMix_take (v := ?_) (by rfl) ?_ ?_; rotate_left; (focus (intro W hW; subst hW; go_simp; (try with_reducible rfl); done)); try simp only [Act.put, List.setIfInBounds_toArray, List.set_cons_zero, List.set_cons_succ]) | (refine wpMix_leave (by rfl) ?_; try simp only [Act.put, List.setIfInBounds_toArray, List.set_cons_zero, List.set_cons_succ]))); refine wpMix_nil ?_)
          go_wp2
          go_roundw
          case rel => exact ⟨k + 1, by omega, by omega, by go_num, _, _, hS.out.fr ((Fr.refl _ _).drew) hsz, hV⟩
          case measure => simp [intOf]; omega
    · have hout : ¬ (k : Int) < ls.length ∨ ((k : Int) < ls.length ∧ ¬ (k : Int) < 80) := by omega
      have HB0 := Lib.hid hS.out.below
      have HSEG := Lib.hid (fun W (hW : Fr [] wr W) i => lf_segment W w.heap.size b d i (hS.out.disk.keep hW) hS.out.ok)
      have HSM := Lib.hid hS.out.ok.small
      have HCL := Lib.hid (Lf.cnt_le hS.out.ok)
      have hlen := Lib.hid (Lf.allPages_len hS.out.ok)
      rcases hout with hout | ⟨hout, hout'⟩
      all_goals
        go_wp2
        go_loopw [8, 9] (fun sm i wq => ∃ j : Nat, j ≤ 6 ∧ i = .int .i64 j ∧ ∃ x : Nat, sm = .int .i64 x ∧ Hid (x = Lf.cnt d j) ∧ Hid (Fr [] wr wq)) (fun _ i _ => 6 - (intOf i).toNat)
        case atStart => exact ⟨0, Nat.zero_le _, rfl, 0, rfl, rfl, Fr.refl _ _⟩
        case round =>
          obtain ⟨j, hj, rfl, x, rfl, hx, hF2⟩ := hrel
          by_cases hj6 : j < 6
          · have hq := HSEG.out wr hF2.out j
            have ea := Lib.hid (show segAns d j = .tuple #[.int .i64 ((Lf.seg d j).length : Int), .int .i64 ((Lf.live d j).length : Int)] from by unfold segAns; rw [if_pos (by omega), Int.toNat_natCast])
            have hlv := Lf.live_le d j
            have hsm := HSM.out j hj6
            have hcs := Lib.hid (Lf.cnt_succ d j)
            have hxb : x ≤ 24 := by have := HCL.out j (by omega); have := hx.out; omega
            have HQ := Lib.hid hq
            clear hq
            generalize (Lf.seg d j).length = n1 at *
            generalize (Lf.live d j).length = n2 at *
            have e3 : decide (0 ≤ (n1 : Int) ∧ (n1 : Int) ≤ 4) = true := decide_eq_true ⟨by omega, by omega⟩
            have e4 : decide ((n1 : Int) < (n2 : Int)) = false := decide_eq_false (by omega)
            have e5 : decide (n1 < n2) = false := decide_eq_false (by omega)
            have hj60 : (j : Int) < 6 := by omega
            go_wp2_with (first
              | (go_at_call 11; (with_reducible refine useC HQ.out ?_); rintro e w3 ⟨rfl, hf3⟩; rw [ea.out]; have HF3 := Lib.hid (hF2.out.trans hf3); clear hf3)
              | (go_at_call 9; (with_reducible refine useC (in3_is _ _ _ true _ e3) ?_); rintro e w3 ⟨rfl, rfl⟩))
            go_roundw
            case rel => exact ⟨j + 1, by omega, by go_num, x + n2, by go_num, by show _ = _; rw [hcs.out, hx.out], HF3⟩
            case measure => simp [intOf]; omega
          · have hj6' : j = 6 := by omega
            subst hj6'
            have hSL : Hid (Sl wr (.slice (some ⟨lb, 0, none⟩) 8 8) lb last ∧ ∀ x ∈ last, 0 ≤ x ∧ x ≤ 100000) := by
              refine ⟨.inr ⟨0, 8, by simp [hS.out.len], by simp [hS.out.len], by decide, fun i hi => ?_⟩, fun x hx => ?_⟩
              · rw [Nat.zero_add]; exact cell_ints (hF2.out.get hS.out.row (by simp)) hi
              · obtain ⟨i, hi, e⟩ := List.getElem_of_mem hx
                have := hV.out i (by have := hS.out.len; omega)
                have e2 : nth last i = x := by simp [nth, List.getD, hi, e]
                rw [e2] at this
                rw [this]; split <;> omega
            have hsumE : Hid ((x : Int) = sumL last) := by
              show _ = _
              have hl := hS.out.len
              rw [hx.out, show Lf.cnt d 6 = _ from hlen.out]
              have e : last = (List.range 8).map (fun q => if Lf.is d q then (1 : Int) else 0) := by
                refine eq_of_getD (by simp [hl]) (fun q hq => ?_)
                rw [hV.out q (by omega)]
                simp [nth, List.getD, List.getElem?_range (show q < 8 by omega)]
              rw [e]
              exact sum_count (Lf.is d) 8
            go_wp2_with (go_at_call 12; (with_reducible refine useC (sum_any _ _ lb last hSL.out.1 (by rw [hS.out.len]; decide) hSL.out.2) ?_); rintro e w3 ⟨rfl, rfl⟩)
            go_ret
            exact ⟨ret_bool (by simp [hsumE.out]), Fr.of_below (HB0.out.trans (hF2.out.toBelow hsz (by simp)))⟩
end Go.Proofs.Ytcgmpccpeocmjaa
