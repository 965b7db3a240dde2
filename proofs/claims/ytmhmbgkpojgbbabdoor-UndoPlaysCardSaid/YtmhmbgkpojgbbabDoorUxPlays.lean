/- UndoPlays: any disk, and anything that is done with it. Printed by wip/gen_uxplays.py. -/
import Derived.Test.YtmhmbgkpojgbbabDoorUxPlays0
import Derived.Test.YtmhmbgkpojgbbabDoorUxWrite
import Derived.Test.YtmhmbgkpojgbbabDoorUnUndo
import Derived.Test.YtmhmbgkpojgbbabDoorUnCrash
import Derived.Test.YtmhmbgkpojgbbabDoorCInts
import Derived.Test.YtmhmbgkpojgbbabDoorRw2
namespace Go.Proofs.YtmhmbgkpojgbbabDoor
open Go.RowKit

set_option maxRecDepth 100000 in
set_option maxHeartbeats 8000000 in
theorem ux_plays (w : World) (v : Value) (ls : List (List Int)) (hR : Rw w.heap.size w v ls) (hE : ErrType w) :
    Calls Tryd.prog 3 #[v] w (OkT w) := by
  have HE := Lib.hid (fun W (hW : Fr [] w W) => hE.fr hW (by simp))
  obtain ⟨A, g, o, c, rfl, hm, hF⟩ := hR
  have HF := Lib.hid hF
  clear hF hE
  go_enter Tryd.func3, Tryd.ntmps3
  go_wp2_with (first
    | (go_at_call 4; (with_reducible refine useC (un_New w) ?_); rintro e w0 ⟨b, rfl, hs, hf⟩; have HD0 := Lib.hid (UnS.start hs hf); clear hs hf)
    | (go_at_call 5; (with_reducible refine useC (ux_New w0) ?_); rintro e w1 ⟨v, rfl, hv, hf⟩; obtain ⟨A1, c1, A2, c2, A3, c3, rfl, hS⟩ := UxS.start HD0.out hv hf; have HS := Lib.hid hS; clear hv hf hS HD0))
  revert HS
  generalize w1.alloc (.cells #[.slice A1 8 c1, .slice A2 8 c2, .slice A3 0 c3] 28) = wA
  generalize w1.heap.size = X at *
  intro HS
  go_loopw [5] (fun i wr => ∃ k : Nat, k ≤ ls.length ∧ k ≤ 80 ∧ i = .int .i64 k ∧ ∃ P A1 c1 A2 c2 A3 c3 d, Hid (UxS w wr P b X (.slice A1 8 c1) (.slice A2 8 c2) (.slice A3 d.was.length c3) d d)) (fun i _ => 80 - (intOf i).toNat)
  case atStart => exact ⟨0, Nat.zero_le _, Nat.zero_le _, rfl, _, _, _, _, _, _, _, Un.new, HS⟩
  case round =>
    clear HS
    obtain ⟨k, hk, hk6, rfl, P, A1, c1, A2, c2, A3, c3, d, hS⟩ := hrel
    by_cases hin : k < ls.length ∧ k < 80
    · obtain ⟨hlt, h60⟩ := hin
      obtain ⟨rfl, hg⟩ := HF.out.1 (by omega)
      obtain ⟨u, kb, hcell0, hkb, hsl, _⟩ := HF.out.2 k hlt
      have hcell := hS.out.fr.cell hcell0 (by simp)
      obtain ⟨A', o', c', rfl, hm', hA', hc'⟩ := hsl.form
      have i0 : (0 : Int) ≤ k := by omega
      have i1 : (k : Int) < ls.length := by omega
      have i6 : (k : Int) < 80 := by omega
      clear hsl hcell0 hkb
      obtain ⟨⟨x0, x1, x2⟩, hfz⟩ := hS.out.cells
      by_cases hl1 : (nthR ls k).length = 1
      · obtain rfl := hA' (by omega)
        have c0 := hc' 0 (by omega)
        rw [Nat.add_zero] at c0
        have HC0 := Lib.hid (fun W (hW : Fr [] w W) => hW.cell c0 (by simp))
        rw [hl1] at hcell 
        clear hc' hA' c0
        generalize nth (nthR ls k) 0 = y0 at *
        have HSD := Lib.hid (hS.out.step (Fr.refl [] wr).drew)
        have hlv : Un.lv false d y0 = Un.end_ d y0 := rfl
        have hcx := ux_Leave wr.drew _ _ d y0 false HSD.out.val HSD.out.ok HSD.out.new
        rw [hlv] at hcx
        have HCX := Lib.hid hcx
        have hok := Un.lv_ok (back := false) HSD.out.ok y0
        rw [hlv] at hok
        have HOK := Lib.hid hok
        have HDF := Lib.hid (fun W (hW : UnF P W b d) => un_End W P b d y0 hW)
        clear hlv hcx hok
        generalize Un.end_ d y0 = d5 at *
        generalize Un.turnErr y0 = er at *
        have c0 := HC0.out wr hS.out.fr
        have HERR := Lib.hid (fun W (hW : Fr [] w W) => uerr_ok W er (HE.out W hW))
        go_wp2_with fail
        (refine wp_region_mix (Fr [] w ·) 9 [(true, 1), (true, 2), (true, 3), (false, 0), (false, 4), (true, 5), (true, 6), (true, 7), (false, 8)] (by kernel_rfl) (by kernel_rfl) (hS.out.fr.drew) ?_; simp only [pickOps, List.map_cons, List.map_nil, List.getD_cons_zero, List.getD_cons_succ, List.drop_succ_cons, List.drop_zero])
        (iterate 3 (first | (refine wpMix_take (v := ?_) (by rfl) ?_ ?_; rotate_left; (focus (intro W hW; have c0 := HC0.out W hW; go_simp; (try with_reducible rfl); done)); try simp only [Act.put, List.setIfInBounds_toArray, List.set_cons_zero, List.set_cons_succ]) | (refine wpMix_leave (by rfl) ?_; try simp only [Act.put, List.setIfInBounds_toArray, List.set_cons_zero, List.set_cons_succ])))
        refine wpMix_walk ?_
        go_wp2
        refine MixQ.mk (HSD.out.fr) ?_
        refine wpMix_walk ?_
        go_wp2_with (go_at_call 6; (with_reducible refine useC HCX.out ?_); rintro e w2 ⟨v2, rfl, hv2, hf2⟩; obtain ⟨A4, c4, A5, c5, A6, c6, rfl⟩ := hv2.form HOK.out; have HS2 := Lib.hid (HSD.out.step hf2); have HS3 := Lib.hid (HSD.out.put hf2 hv2 HOK.out); clear hv2 hf2)
        refine MixQ.mk (HS2.out.fr) ?_
        (iterate 3 (first | (refine wpMix_take (v := ?_) (by rfl) ?_ ?_; rotate_left; (focus (intro W hW; skip; go_simp; (try with_reducible rfl); done)); try simp only [Act.put, List.setIfInBounds_toArray, List.set_cons_zero, List.set_cons_succ]) | (refine wpMix_leave (by rfl) ?_; try simp only [Act.put, List.setIfInBounds_toArray, List.set_cons_zero, List.set_cons_succ])))
        refine wpMix_walk ?_
        clear x0 x1 x2 hfz
        obtain ⟨⟨x0, x1, x2⟩, hfz⟩ := HS2.out.cells
        go_wp2
        refine MixQ.mk (HS3.out.fr) ?_
        refine wpMix_nil ?_
        clear x0 x1 x2 hfz HCX HS2 HSD hS c0
        generalize (((w2.setCell ⟨X, 0, none⟩ (.slice A4 8 c4)).setCell ⟨X, 1, none⟩ (.slice A5 8 c5)).setCell ⟨X, 2, none⟩ (.slice A6 d5.was.length c6)) = w3 at *
        have c0 := HC0.out w3 HS3.out.fr
        go_wp2_with (go_at_call 7; (with_reducible refine useC (HDF.out w3 HS3.out.disk.file) ?_); rintro e w5 ha; obtain ⟨rfl, hs⟩ := HS3.out.turn ha; obtain ⟨P5, HS5⟩ : ∃ P, Hid (UxS w w5 P b X (.slice A4 8 c4) (.slice A5 8 c5) (.slice A6 d5.was.length c6) d5 d5) := ⟨_, hs⟩; clear ha hs)
        clear HS3 HDF HOK HC0 c0
        have HSX := Lib.hid (fun W (hW : Fr [] w5 W) => HS5.out.step hW)
        have HVD := Lib.hid (fun W (hW : Fr [] w5 W) => un_Values W P5 b d5 (HS5.out.step hW).disk.file)
        have HEC := Lib.hid (HERR.out w5.drew HS5.out.fr.drew)
        go_wp2_with fail
        (refine wp_region_mix (Fr [] w5 ·) 9 [(true, 0), (true, 1), (false, 2), (true, 3), (true, 4), (true, 5), (true, 7), (true, 8), (false, 6)] (by kernel_rfl) (by kernel_rfl) ((Fr.refl _ _).drew) ?_; simp only [pickOps, List.map_cons, List.map_nil, List.getD_cons_zero, List.getD_cons_succ, List.drop_succ_cons, List.drop_zero])
        (iterate 2 (first | (refine wpMix_take (v := ?_) (by rfl) ?_ ?_; rotate_left; (focus (intro W hW; skip; go_simp; (try with_reducible rfl); done)); try simp only [Act.put, List.setIfInBounds_toArray, List.set_cons_zero, List.set_cons_succ]) | (refine wpMix_leave (by rfl) ?_; try simp only [Act.put, List.setIfInBounds_toArray, List.set_cons_zero, List.set_cons_succ])))
        refine wpMix_walk ?_
        go_wp2_with (go_at_call 13; (with_reducible refine useC HEC.out ?_); rintro e w7 ⟨rfl, hf⟩; have HF7 : Hid (Fr [] w5 w7) := ((Fr.refl [] w5).drew).trans hf; clear hf)
        refine MixQ.mk (HF7.out) ?_
        (iterate 5 (first | (refine wpMix_take (v := ?_) (by rfl) ?_ ?_; rotate_left; (focus (intro W hW; obtain ⟨⟨y0, y1, y2⟩, -⟩ := (HSX.out W hW).cells; go_simp; (try with_reducible rfl); done)); try simp only [Act.put, List.setIfInBounds_toArray, List.set_cons_zero, List.set_cons_succ]) | (refine wpMix_leave (by rfl) ?_; try simp only [Act.put, List.setIfInBounds_toArray, List.set_cons_zero, List.set_cons_succ])))
        refine wpMix_walk ?_
        go_wp2_with (go_at_call 15; (with_reducible refine useC (HVD.out w7 HF7.out) ?_); rintro e w8 ⟨v8, g8, rfl, -, hs, hf⟩; have HF8 : Hid (Fr [] w5 w8) := HF7.out.trans hf; have HC8 := Lib.hid hs; clear hs hf)
        refine MixQ.mk (HF8.out) ?_
        refine wpMix_nil ?_
        have hs8 := HSX.out w8 HF8.out
        obtain ⟨ga, -, hsa⟩ := hs8.ra
        have HIA := Lib.hid (ints_same w8 _ _ g8 ga _ HC8.out hsa)
        clear hs8 hsa
        go_wp2_with (go_at_call 14; (with_reducible refine useC HIA.out ?_); rintro e w10 ⟨rfl, hdr⟩; have HS10 := Lib.hid (HS5.out.step (HF8.out.trans (hdr.fr []))); clear hdr)
        clear HIA HEC HVD HSX HC8 HF7 HF8 HS5 HERR
        go_loopw [11] (fun i wr => ∃ j : Nat, j ≤ 8 ∧ i = .int .i64 j ∧ Hid (UxS w wr P5 b X (.slice A4 8 c4) (.slice A5 8 c5) (.slice A6 d5.was.length c6) d5 d5)) (fun i _ => 8 - (intOf i).toNat)
        case atStart => exact ⟨0, Nat.zero_le _, rfl, HS10⟩
        case round =>
          clear HS10
          obtain ⟨j, hj, rfl, hT⟩ := hrel
          by_cases hlt' : j < 8
          · have j1 : (j : Int) < 8 := by omega
            have j0 : (0 : Int) ≤ j := by omega
            have hba : Un.busyAt d5 j = nth d5.busy j := by
              unfold Un.busyAt
              rw [if_pos (by omega), Int.toNat_natCast]
            obtain ⟨gq, -, hsq⟩ := hT.out.rc
            obtain ⟨Aq, oq, cq, eq, -, hAq, hcq⟩ := hsq.form
            rw [hT.out.ok.busy] at eq
            injection eq with eq1 _ eq2
            subst eq1 eq2
            obtain rfl := hAq (by rw [hT.out.ok.busy]; decide)
            have cj := hcq j (by rw [hT.out.ok.busy]; exact hlt')
            have HQ := Lib.hid (fun W (hW : Fr [] wr W) => And.intro (hW.cell hT.out.box.cells.2.1 (by simp)) (hW.cell cj (by simp)))
            have HTD := Lib.hid (hT.out.step ((Fr.refl [] wr).drew))
            have HBY := Lib.hid (un_Busy wr.drew P5 b d5 j HTD.out.disk.file)
            rw [hba] at HBY
            clear hsq hAq hcq cj hba
            generalize nth d5.busy j = y at *
            go_wp2_with fail
            (refine wp_region_mix (Fr [] wr ·) 8 [(true, 0), (true, 1), (true, 3), (true, 4), (true, 5), (true, 6), (true, 7), (false, 2)] (by kernel_rfl) (by kernel_rfl) ((Fr.refl _ _).drew) ?_; simp only [pickOps, List.map_cons, List.map_nil, List.getD_cons_zero, List.getD_cons_succ, List.drop_succ_cons, List.drop_zero])
            (iterate 7 (first | (refine wpMix_take (v := ?_) (by rfl) ?_ ?_; rotate_left; (focus (intro W hW; obtain ⟨y1, y2⟩ := HQ.out W hW; go_simp; (try with_reducible rfl); done)); try simp only [Act.put, List.setIfInBounds_toArray, List.set_cons_zero, List.set_cons_succ]) | (refine wpMix_leave (by rfl) ?_; try simp only [Act.put, List.setIfInBounds_toArray, List.set_cons_zero, List.set_cons_succ])))
            refine wpMix_walk ?_
            go_wp2_with (go_at_call 16; (with_reducible refine useC HBY.out ?_); rintro e w11 ⟨rfl, rfl⟩)
            refine MixQ.mk ((Fr.refl _ _).drew) ?_
            refine wpMix_nil ?_
            go_wp2
            go_roundw
            case rel => exact ⟨j + 1, by omega, by go_num, HTD⟩
            case measure => (simp [intOf]; try omega)
          · have j1 : ¬ (j : Int) < 8 := by omega
            clear hlt'
            go_wp2
            go_roundw
            case rel => exact ⟨k + 1, by omega, by omega, by go_num, _, _, _, _, _, _, _, _, hT⟩
            case measure => (simp [intOf]; try omega)
      · by_cases hl2 : (nthR ls k).length = 2
        · obtain rfl := hA' (by omega)
          have c0 := hc' 0 (by omega)
          rw [Nat.add_zero] at c0
          have HC0 := Lib.hid (fun W (hW : Fr [] w W) => hW.cell c0 (by simp))
          have b1 : (((nthR ls k).length : Int) == 1) = false := beq_eq_false_iff_ne.2 (by omega)
          rw [hl2] at hcell b1
          clear hc' hA' c0
          generalize nth (nthR ls k) 0 = y0 at *
          have HSD := Lib.hid (hS.out.step (Fr.refl [] wr).drew)
          have hlv : Un.lv true d y0 = Un.undo d y0 := rfl
          have hcx := ux_Leave wr.drew _ _ d y0 true HSD.out.val HSD.out.ok HSD.out.new
          rw [hlv] at hcx
          have HCX := Lib.hid hcx
          have hok := Un.lv_ok (back := true) HSD.out.ok y0
          rw [hlv] at hok
          have HOK := Lib.hid hok
          have HDF := Lib.hid (fun W (hW : UnF P W b d) => un_Undo W P b d y0 hW)
          clear hlv hcx hok
          generalize Un.undo d y0 = d5 at *
          generalize Un.turnErr y0 = er at *
          have c0 := HC0.out wr hS.out.fr
          have HERR := Lib.hid (fun W (hW : Fr [] w W) => uerr_ok W er (HE.out W hW))
          go_wp2_with fail
          (refine wp_region_mix (Fr [] w ·) 9 [(true, 1), (true, 2), (true, 3), (false, 0), (false, 4), (true, 5), (true, 6), (true, 7), (false, 8)] (by kernel_rfl) (by kernel_rfl) (hS.out.fr.drew) ?_; simp only [pickOps, List.map_cons, List.map_nil, List.getD_cons_zero, List.getD_cons_succ, List.drop_succ_cons, List.drop_zero])
          (iterate 3 (first | (refine wpMix_take (v := ?_) (by rfl) ?_ ?_; rotate_left; (focus (intro W hW; have c0 := HC0.out W hW; go_simp; (try with_reducible rfl); done)); try simp only [Act.put, List.setIfInBounds_toArray, List.set_cons_zero, List.set_cons_succ]) | (refine wpMix_leave (by rfl) ?_; try simp only [Act.put, List.setIfInBounds_toArray, List.set_cons_zero, List.set_cons_succ])))
          refine wpMix_walk ?_
          go_wp2
          refine MixQ.mk (HSD.out.fr) ?_
          refine wpMix_walk ?_
          go_wp2_with (go_at_call 6; (with_reducible refine useC HCX.out ?_); rintro e w2 ⟨v2, rfl, hv2, hf2⟩; obtain ⟨A4, c4, A5, c5, A6, c6, rfl⟩ := hv2.form HOK.out; have HS2 := Lib.hid (HSD.out.step hf2); have HS3 := Lib.hid (HSD.out.put hf2 hv2 HOK.out); clear hv2 hf2)
          refine MixQ.mk (HS2.out.fr) ?_
          (iterate 3 (first | (refine wpMix_take (v := ?_) (by rfl) ?_ ?_; rotate_left; (focus (intro W hW; skip; go_simp; (try with_reducible rfl); done)); try simp only [Act.put, List.setIfInBounds_toArray, List.set_cons_zero, List.set_cons_succ]) | (refine wpMix_leave (by rfl) ?_; try simp only [Act.put, List.setIfInBounds_toArray, List.set_cons_zero, List.set_cons_succ])))
          refine wpMix_walk ?_
          clear x0 x1 x2 hfz
          obtain ⟨⟨x0, x1, x2⟩, hfz⟩ := HS2.out.cells
          go_wp2
          refine MixQ.mk (HS3.out.fr) ?_
          refine wpMix_nil ?_
          clear x0 x1 x2 hfz HCX HS2 HSD hS c0
          generalize (((w2.setCell ⟨X, 0, none⟩ (.slice A4 8 c4)).setCell ⟨X, 1, none⟩ (.slice A5 8 c5)).setCell ⟨X, 2, none⟩ (.slice A6 d5.was.length c6)) = w3 at *
          have c0 := HC0.out w3 HS3.out.fr
          go_wp2_with (go_at_call 8; (with_reducible refine useC (HDF.out w3 HS3.out.disk.file) ?_); rintro e w5 ha; obtain ⟨rfl, hs⟩ := HS3.out.turn ha; obtain ⟨P5, HS5⟩ : ∃ P, Hid (UxS w w5 P b X (.slice A4 8 c4) (.slice A5 8 c5) (.slice A6 d5.was.length c6) d5 d5) := ⟨_, hs⟩; clear ha hs)
          clear HS3 HDF HOK HC0 c0
          have HSX := Lib.hid (fun W (hW : Fr [] w5 W) => HS5.out.step hW)
          have HVD := Lib.hid (fun W (hW : Fr [] w5 W) => un_Values W P5 b d5 (HS5.out.step hW).disk.file)
          have HEC := Lib.hid (HERR.out w5.drew HS5.out.fr.drew)
          go_wp2_with fail
          (refine wp_region_mix (Fr [] w5 ·) 9 [(true, 0), (true, 1), (false, 2), (true, 3), (true, 4), (true, 5), (true, 7), (true, 8), (false, 6)] (by kernel_rfl) (by kernel_rfl) ((Fr.refl _ _).drew) ?_; simp only [pickOps, List.map_cons, List.map_nil, List.getD_cons_zero, List.getD_cons_succ, List.drop_succ_cons, List.drop_zero])
          (iterate 2 (first | (refine wpMix_take (v := ?_) (by rfl) ?_ ?_; rotate_left; (focus (intro W hW; skip; go_simp; (try with_reducible rfl); done)); try simp only [Act.put, List.setIfInBounds_toArray, List.set_cons_zero, List.set_cons_succ]) | (refine wpMix_leave (by rfl) ?_; try simp only [Act.put, List.setIfInBounds_toArray, List.set_cons_zero, List.set_cons_succ])))
          refine wpMix_walk ?_
          go_wp2_with (go_at_call 13; (with_reducible refine useC HEC.out ?_); rintro e w7 ⟨rfl, hf⟩; have HF7 : Hid (Fr [] w5 w7) := ((Fr.refl [] w5).drew).trans hf; clear hf)
          refine MixQ.mk (HF7.out) ?_
          (iterate 5 (first | (refine wpMix_take (v := ?_) (by rfl) ?_ ?_; rotate_left; (focus (intro W hW; obtain ⟨⟨y0, y1, y2⟩, -⟩ := (HSX.out W hW).cells; go_simp; (try with_reducible rfl); done)); try simp only [Act.put, List.setIfInBounds_toArray, List.set_cons_zero, List.set_cons_succ]) | (refine wpMix_leave (by rfl) ?_; try simp only [Act.put, List.setIfInBounds_toArray, List.set_cons_zero, List.set_cons_succ])))
          refine wpMix_walk ?_
          go_wp2_with (go_at_call 15; (with_reducible refine useC (HVD.out w7 HF7.out) ?_); rintro e w8 ⟨v8, g8, rfl, -, hs, hf⟩; have HF8 : Hid (Fr [] w5 w8) := HF7.out.trans hf; have HC8 := Lib.hid hs; clear hs hf)
          refine MixQ.mk (HF8.out) ?_
          refine wpMix_nil ?_
          have hs8 := HSX.out w8 HF8.out
          obtain ⟨ga, -, hsa⟩ := hs8.ra
          have HIA := Lib.hid (ints_same w8 _ _ g8 ga _ HC8.out hsa)
          clear hs8 hsa
          go_wp2_with (go_at_call 14; (with_reducible refine useC HIA.out ?_); rintro e w10 ⟨rfl, hdr⟩; have HS10 := Lib.hid (HS5.out.step (HF8.out.trans (hdr.fr []))); clear hdr)
          clear HIA HEC HVD HSX HC8 HF7 HF8 HS5 HERR
          go_loopw [11] (fun i wr => ∃ j : Nat, j ≤ 8 ∧ i = .int .i64 j ∧ Hid (UxS w wr P5 b X (.slice A4 8 c4) (.slice A5 8 c5) (.slice A6 d5.was.length c6) d5 d5)) (fun i _ => 8 - (intOf i).toNat)
          case atStart => exact ⟨0, Nat.zero_le _, rfl, HS10⟩
          case round =>
            clear HS10
            obtain ⟨j, hj, rfl, hT⟩ := hrel
            by_cases hlt' : j < 8
            · have j1 : (j : Int) < 8 := by omega
              have j0 : (0 : Int) ≤ j := by omega
              have hba : Un.busyAt d5 j = nth d5.busy j := by
                unfold Un.busyAt
                rw [if_pos (by omega), Int.toNat_natCast]
              obtain ⟨gq, -, hsq⟩ := hT.out.rc
              obtain ⟨Aq, oq, cq, eq, -, hAq, hcq⟩ := hsq.form
              rw [hT.out.ok.busy] at eq
              injection eq with eq1 _ eq2
              subst eq1 eq2
              obtain rfl := hAq (by rw [hT.out.ok.busy]; decide)
              have cj := hcq j (by rw [hT.out.ok.busy]; exact hlt')
              have HQ := Lib.hid (fun W (hW : Fr [] wr W) => And.intro (hW.cell hT.out.box.cells.2.1 (by simp)) (hW.cell cj (by simp)))
              have HTD := Lib.hid (hT.out.step ((Fr.refl [] wr).drew))
              have HBY := Lib.hid (un_Busy wr.drew P5 b d5 j HTD.out.disk.file)
              rw [hba] at HBY
              clear hsq hAq hcq cj hba
              generalize nth d5.busy j = y at *
              go_wp2_with fail
              (refine wp_region_mix (Fr [] wr ·) 8 [(true, 0), (true, 1), (true, 3), (true, 4), (true, 5), (true, 6), (true, 7), (false, 2)] (by kernel_rfl) (by kernel_rfl) ((Fr.refl _ _).drew) ?_; simp only [pickOps, List.map_cons, List.map_nil, List.getD_cons_zero, List.getD_cons_succ, List.drop_succ_cons, List.drop_zero])
              (iterate 7 (first | (refine wpMix_take (v := ?_) (by rfl) ?_ ?_; rotate_left; (focus (intro W hW; obtain ⟨y1, y2⟩ := HQ.out W hW; go_simp; (try with_reducible rfl); done)); try simp only [Act.put, List.setIfInBounds_toArray, List.set_cons_zero, List.set_cons_succ]) | (refine wpMix_leave (by rfl) ?_; try simp only [Act.put, List.setIfInBounds_toArray, List.set_cons_zero, List.set_cons_succ])))
              refine wpMix_walk ?_
              go_wp2_with (go_at_call 16; (with_reducible refine useC HBY.out ?_); rintro e w11 ⟨rfl, rfl⟩)
              refine MixQ.mk ((Fr.refl _ _).drew) ?_
              refine wpMix_nil ?_
              go_wp2
              go_roundw
              case rel => exact ⟨j + 1, by omega, by go_num, HTD⟩
              case measure => (simp [intOf]; try omega)
            · have j1 : ¬ (j : Int) < 8 := by omega
              clear hlt'
              go_wp2
              go_roundw
              case rel => exact ⟨k + 1, by omega, by omega, by go_num, _, _, _, _, _, _, _, _, hT⟩
              case measure => (simp [intOf]; try omega)
        · by_cases hl3 : (nthR ls k).length = 3
          · obtain rfl := hA' (by omega)
            have c0 := hc' 0 (by omega)
            have c1' := hc' 1 (by omega)
            have c2' := hc' 2 (by omega)
            rw [Nat.add_zero] at c0
            have HC0 := Lib.hid (fun W (hW : Fr [] w W) => And.intro (hW.cell c0 (by simp)) (And.intro (hW.cell c1' (by simp)) (hW.cell c2' (by simp))))
            have b1 : (((nthR ls k).length : Int) == 1) = false := beq_eq_false_iff_ne.2 (by omega)
            have b2 : (((nthR ls k).length : Int) == 2) = false := beq_eq_false_iff_ne.2 (by omega)
            rw [hl3] at hcell b1 b2
            clear hc' hA' c0 c1' c2'
            generalize nth (nthR ls k) 0 = y0 at *
            generalize nth (nthR ls k) 1 = y1 at *
            generalize nth (nthR ls k) 2 = y2 at *
            obtain ⟨c0, c1', c2'⟩ := HC0.out wr hS.out.fr
            have HSD := Lib.hid (hS.out.step (((Fr.refl [] wr).alloc (.cells #[.int .i64 y0, .int .i64 y1, .int .i64 y2] 36)).drew))
            have HPN : Hid ((wr.alloc (.cells #[.int .i64 y0, .int .i64 y1, .int .i64 y2] 36)).drew.heap[wr.heap.size]? = some (.cells #[.int .i64 y0, .int .i64 y1, .int .i64 y2] 36 (0, 0))) := heap_alloc_new wr _
            have hpx : X < wr.heap.size := lt_of_heap hS.out.box
            go_wp2_with fail
            (refine wp_region_mix (Fr [] w ·) 11 [(true, 0), (true, 1), (true, 2), (true, 3), (true, 4), (true, 5), (true, 6), (true, 7), (true, 8), (true, 9), (false, 10)] (by kernel_rfl) (by kernel_rfl) (hS.out.fr.drew) ?_; simp only [pickOps, List.map_cons, List.map_nil, List.getD_cons_zero, List.getD_cons_succ, List.drop_succ_cons, List.drop_zero])
            (iterate 10 (first | (refine wpMix_take (v := ?_) (by rfl) ?_ ?_; rotate_left; (focus (intro W hW; obtain ⟨c0, c1', c2'⟩ := HC0.out W hW; go_simp; (try with_reducible rfl); done)); try simp only [Act.put, List.setIfInBounds_toArray, List.set_cons_zero, List.set_cons_succ]) | (refine wpMix_leave (by rfl) ?_; try simp only [Act.put, List.setIfInBounds_toArray, List.set_cons_zero, List.set_cons_succ])))
            refine wpMix_walk ?_
            go_wp2
            refine MixQ.mk (hS.out.fr.drew.alloc _) ?_
            refine wpMix_nil ?_
            clear c0 c1' c2' HC0
            go_wp2_with fail
            revert HSD HPN
            generalize (wr.alloc (.cells #[.int .i64 y0, .int .i64 y1, .int .i64 y2] 36)).drew = w1
            generalize wr.heap.size = PB at *
            intro HSD HPN
            have hpn : PB ≠ X := by omega
            have HPX := Lib.hid hpn
            clear hpx hpn x0 x1 x2 hfz hS
            obtain ⟨⟨x0, x1, x2⟩, hfz⟩ := HSD.out.cells
            have HCX := Lib.hid (ux_Write w1 _ _ d y0 y1 y2 HSD.out.val HSD.out.ok HSD.out.new)
            have HOK := Lib.hid (Un.write_ok HSD.out.ok y0 y1 y2)
            have hdf : ∀ W, UnF P W b d → Calls Tryd.prog 10 #[.pointer (some ⟨b, 0, none⟩), .agg #[.int .i64 y0, .int .i64 y1, .int .i64 y2]] W (UnAns P b (errV (Un.wrErr d y0 y1 y2)) (Un.write d y0 y1 y2) W) := fun W hW => un_Write W P b d y0 y1 y2 hW
            have HDF := Lib.hid hdf
            clear hdf
            generalize Un.write d y0 y1 y2 = d5 at *
            generalize Un.wrErr d y0 y1 y2 = er at *
            have HERR := Lib.hid (fun W (hW : Fr [] w W) => uerr_ok W er (HE.out W hW))
            go_wp2_with (first
              | (go_at_call 9; (with_reducible refine useC HCX.out ?_); rintro e w2 ⟨v2, rfl, hv2, hf2⟩; obtain ⟨A4, c4, A5, c5, A6, c6, rfl⟩ := hv2.form HOK.out; have HS2 := Lib.hid (HSD.out.step hf2); have hs3 := HSD.out.put hf2 hv2 HOK.out; obtain ⟨w3, hw3⟩ : ∃ x, x = (((w2.setCell ⟨X, 0, none⟩ (.slice A4 8 c4)).setCell ⟨X, 1, none⟩ (.slice A5 8 c5)).setCell ⟨X, 2, none⟩ (.slice A6 d5.was.length c6)) := ⟨_, rfl⟩; rw [← hw3] at hs3; have HS3 := Lib.hid hs3; have HP3 : Hid (w3.heap[PB]? = some (.cells #[.int .i64 y0, .int .i64 y1, .int .i64 y2] 36 (0, 0))) := (by rw [hw3]; exact ((((Fr.refl [X] w2).setCell (.inl (by simp)) _).setCell (.inl (by simp)) _).setCell (.inl (by simp)) _).get (hf2.get HPN.out (by simp)) (by simpa using HPX.out)); have HW3 := Lib.hid hw3; clear hv2 hf2 hw3 hs3 x0 x1 x2 hfz; obtain ⟨⟨x0, x1, x2⟩, hfz⟩ := HS2.out.cells)
              | (rw [← HW3.out]; clear HW3 x0 x1 x2 hfz; have p0 : w3.cell? ⟨PB, 0, none⟩ = some (.int .i64 y0) := (by rw [cell_of_row _ _ _ _ _ _ HP3.out]; rfl); have p1 : w3.cell? ⟨PB, 1, none⟩ = some (.int .i64 y1) := (by rw [cell_of_row _ _ _ _ _ _ HP3.out]; rfl); have p2 : w3.cell? ⟨PB, 2, none⟩ = some (.int .i64 y2) := (by rw [cell_of_row _ _ _ _ _ _ HP3.out]; rfl))
              | (go_at_call 10; (with_reducible refine useC (HDF.out w3 HS3.out.disk.file) ?_); rintro e w5 ha; obtain ⟨rfl, hs⟩ := HS3.out.turn ha; obtain ⟨P5, HS5⟩ : ∃ P, Hid (UxS w w5 P b X (.slice A4 8 c4) (.slice A5 8 c5) (.slice A6 d5.was.length c6) d5 d5) := ⟨_, hs⟩; clear ha hs p0 p1 p2; go_wp2_with fail))
            clear HS3 HDF HOK HCX HSD HPN HP3 HS2
            have HSX := Lib.hid (fun W (hW : Fr [] w5 W) => HS5.out.step hW)
            have HVD := Lib.hid (fun W (hW : Fr [] w5 W) => un_Values W P5 b d5 (HS5.out.step hW).disk.file)
            have HEC := Lib.hid (HERR.out w5.drew HS5.out.fr.drew)
            go_wp2_with fail
            (refine wp_region_mix (Fr [] w5 ·) 9 [(true, 0), (true, 1), (false, 2), (true, 3), (true, 4), (true, 5), (true, 7), (true, 8), (false, 6)] (by kernel_rfl) (by kernel_rfl) ((Fr.refl _ _).drew) ?_; simp only [pickOps, List.map_cons, List.map_nil, List.getD_cons_zero, List.getD_cons_succ, List.drop_succ_cons, List.drop_zero])
            (iterate 2 (first | (refine wpMix_take (v := ?_) (by rfl) ?_ ?_; rotate_left; (focus (intro W hW; skip; go_simp; (try with_reducible rfl); done)); try simp only [Act.put, List.setIfInBounds_toArray, List.set_cons_zero, List.set_cons_succ]) | (refine wpMix_leave (by rfl) ?_; try simp only [Act.put, List.setIfInBounds_toArray, List.set_cons_zero, List.set_cons_succ])))
            refine wpMix_walk ?_
            go_wp2_with (go_at_call 13; (with_reducible refine useC HEC.out ?_); rintro e w7 ⟨rfl, hf⟩; have HF7 : Hid (Fr [] w5 w7) := ((Fr.refl [] w5).drew).trans hf; clear hf)
            refine MixQ.mk (HF7.out) ?_
            (iterate 5 (first | (refine wpMix_take (v := ?_) (by rfl) ?_ ?_; rotate_left; (focus (intro W hW; obtain ⟨⟨y0, y1, y2⟩, -⟩ := (HSX.out W hW).cells; go_simp; (try with_reducible rfl); done)); try simp only [Act.put, List.setIfInBounds_toArray, List.set_cons_zero, List.set_cons_succ]) | (refine wpMix_leave (by rfl) ?_; try simp only [Act.put, List.setIfInBounds_toArray, List.set_cons_zero, List.set_cons_succ])))
            refine wpMix_walk ?_
            go_wp2_with (go_at_call 15; (with_reducible refine useC (HVD.out w7 HF7.out) ?_); rintro e w8 ⟨v8, g8, rfl, -, hs, hf⟩; have HF8 : Hid (Fr [] w5 w8) := HF7.out.trans hf; have HC8 := Lib.hid hs; clear hs hf)
            refine MixQ.mk (HF8.out) ?_
            refine wpMix_nil ?_
            have hs8 := HSX.out w8 HF8.out
            obtain ⟨ga, -, hsa⟩ := hs8.ra
            have HIA := Lib.hid (ints_same w8 _ _ g8 ga _ HC8.out hsa)
            clear hs8 hsa
            go_wp2_with (go_at_call 14; (with_reducible refine useC HIA.out ?_); rintro e w10 ⟨rfl, hdr⟩; have HS10 := Lib.hid (HS5.out.step (HF8.out.trans (hdr.fr []))); clear hdr)
            clear HIA HEC HVD HSX HC8 HF7 HF8 HS5 HERR
            go_loopw [11] (fun i wr => ∃ j : Nat, j ≤ 8 ∧ i = .int .i64 j ∧ Hid (UxS w wr P5 b X (.slice A4 8 c4) (.slice A5 8 c5) (.slice A6 d5.was.length c6) d5 d5)) (fun i _ => 8 - (intOf i).toNat)
            case atStart => exact ⟨0, Nat.zero_le _, rfl, HS10⟩
            case round =>
              clear HS10
              obtain ⟨j, hj, rfl, hT⟩ := hrel
              by_cases hlt' : j < 8
              · have j1 : (j : Int) < 8 := by omega
                have j0 : (0 : Int) ≤ j := by omega
                have hba : Un.busyAt d5 j = nth d5.busy j := by
                  unfold Un.busyAt
                  rw [if_pos (by omega), Int.toNat_natCast]
                obtain ⟨gq, -, hsq⟩ := hT.out.rc
                obtain ⟨Aq, oq, cq, eq, -, hAq, hcq⟩ := hsq.form
                rw [hT.out.ok.busy] at eq
                injection eq with eq1 _ eq2
                subst eq1 eq2
                obtain rfl := hAq (by rw [hT.out.ok.busy]; decide)
                have cj := hcq j (by rw [hT.out.ok.busy]; exact hlt')
                have HQ := Lib.hid (fun W (hW : Fr [] wr W) => And.intro (hW.cell hT.out.box.cells.2.1 (by simp)) (hW.cell cj (by simp)))
                have HTD := Lib.hid (hT.out.step ((Fr.refl [] wr).drew))
                have HBY := Lib.hid (un_Busy wr.drew P5 b d5 j HTD.out.disk.file)
                rw [hba] at HBY
                clear hsq hAq hcq cj hba
                generalize nth d5.busy j = y at *
                go_wp2_with fail
                (refine wp_region_mix (Fr [] wr ·) 8 [(true, 0), (true, 1), (true, 3), (true, 4), (true, 5), (true, 6), (true, 7), (false, 2)] (by kernel_rfl) (by kernel_rfl) ((Fr.refl _ _).drew) ?_; simp only [pickOps, List.map_cons, List.map_nil, List.getD_cons_zero, List.getD_cons_succ, List.drop_succ_cons, List.drop_zero])
                (iterate 7 (first | (refine wpMix_take (v := ?_) (by rfl) ?_ ?_; rotate_left; (focus (intro W hW; obtain ⟨y1, y2⟩ := HQ.out W hW; go_simp; (try with_reducible rfl); done)); try simp only [Act.put, List.setIfInBounds_toArray, List.set_cons_zero, List.set_cons_succ]) | (refine wpMix_leave (by rfl) ?_; try simp only [Act.put, List.setIfInBounds_toArray, List.set_cons_zero, List.set_cons_succ])))
                refine wpMix_walk ?_
                go_wp2_with (go_at_call 16; (with_reducible refine useC HBY.out ?_); rintro e w11 ⟨rfl, rfl⟩)
                refine MixQ.mk ((Fr.refl _ _).drew) ?_
                refine wpMix_nil ?_
                go_wp2
                go_roundw
                case rel => exact ⟨j + 1, by omega, by go_num, HTD⟩
                case measure => (simp [intOf]; try omega)
              · have j1 : ¬ (j : Int) < 8 := by omega
                clear hlt'
                go_wp2
                go_roundw
                case rel => exact ⟨k + 1, by omega, by omega, by go_num, _, _, _, _, _, _, _, _, hT⟩
                case measure => (simp [intOf]; try omega)
          · by_cases hl4 : (nthR ls k).length = 4
            · have b1 : (((nthR ls k).length : Int) == 1) = false := beq_eq_false_iff_ne.2 (by omega)
              have b2 : (((nthR ls k).length : Int) == 2) = false := beq_eq_false_iff_ne.2 (by omega)
              have b3 : (((nthR ls k).length : Int) == 3) = false := beq_eq_false_iff_ne.2 (by omega)
              rw [hl4] at hcell b1 b2 b3
              clear hc' hA'
              have HCX := Lib.hid (ux_Crash wr _ _ d hS.out.val hS.out.ok hS.out.new)
              have HOK := Lib.hid (Un.crash_ok hS.out.ok)
              have HDF := Lib.hid (fun W (hW : UnF P W b d) => un_Crash W P b d hW)
              have HERR := Lib.hid (fun W (hW : Fr [] w W) => uerr_ok0 W (HE.out W hW))
              generalize Un.crash d = d5 at *
              generalize Un.cnt d.was = er at *
              go_wp2_with (first
                | (go_at_call 11; (with_reducible refine useC HCX.out ?_); rintro e w2 ⟨v2, rfl, hv2, hf2⟩; obtain ⟨A4, c4, A5, c5, A6, c6, rfl⟩ := hv2.form HOK.out; have HS2 := Lib.hid (hS.out.step hf2); have hs3 := hS.out.put hf2 hv2 HOK.out; obtain ⟨w3, hw3⟩ : ∃ x, x = (((w2.setCell ⟨X, 0, none⟩ (.slice A4 8 c4)).setCell ⟨X, 1, none⟩ (.slice A5 8 c5)).setCell ⟨X, 2, none⟩ (.slice A6 d5.was.length c6)) := ⟨_, rfl⟩; rw [← hw3] at hs3; have HS3 := Lib.hid hs3; have HW3 := Lib.hid hw3; clear hv2 hf2 hw3 hs3 x0 x1 x2 hfz; obtain ⟨⟨x0, x1, x2⟩, hfz⟩ := HS2.out.cells)
                | (rw [← HW3.out]; clear HW3 x0 x1 x2 hfz)
                | (go_at_call 12; (with_reducible refine useC (HDF.out w3 HS3.out.disk.file) ?_); rintro e w5 ha; obtain ⟨rfl, hs⟩ := HS3.out.turn ha; obtain ⟨P5, HS5⟩ : ∃ P, Hid (UxS w w5 P b X (.slice A4 8 c4) (.slice A5 8 c5) (.slice A6 d5.was.length c6) d5 d5) := ⟨_, hs⟩; clear ha hs; go_wp2_with fail))
              clear HS3 HDF HOK HCX HS2 hS
              have HSX := Lib.hid (fun W (hW : Fr [] w5 W) => HS5.out.step hW)
              have HVD := Lib.hid (fun W (hW : Fr [] w5 W) => un_Values W P5 b d5 (HS5.out.step hW).disk.file)
              have HEC := Lib.hid (HERR.out w5.drew HS5.out.fr.drew)
              go_wp2_with fail
              (refine wp_region_mix (Fr [] w5 ·) 9 [(true, 0), (true, 1), (false, 2), (true, 3), (true, 4), (true, 5), (true, 7), (true, 8), (false, 6)] (by kernel_rfl) (by kernel_rfl) ((Fr.refl _ _).drew) ?_; simp only [pickOps, List.map_cons, List.map_nil, List.getD_cons_zero, List.getD_cons_succ, List.drop_succ_cons, List.drop_zero])
              (iterate 2 (first | (refine wpMix_take (v := ?_) (by rfl) ?_ ?_; rotate_left; (focus (intro W hW; skip; go_simp; (try with_reducible rfl); done)); try simp only [Act.put, List.setIfInBounds_toArray, List.set_cons_zero, List.set_cons_succ]) | (refine wpMix_leave (by rfl) ?_; try simp only [Act.put, List.setIfInBounds_toArray, List.set_cons_zero, List.set_cons_succ])))
              refine wpMix_walk ?_
              go_wp2_with (go_at_call 13; (with_reducible refine useC HEC.out ?_); rintro e w7 ⟨rfl, hf⟩; have HF7 : Hid (Fr [] w5 w7) := ((Fr.refl [] w5).drew).trans hf; clear hf)
              refine MixQ.mk (HF7.out) ?_
              (iterate 5 (first | (refine wpMix_take (v := ?_) (by rfl) ?_ ?_; rotate_left; (focus (intro W hW; obtain ⟨⟨y0, y1, y2⟩, -⟩ := (HSX.out W hW).cells; go_simp; (try with_reducible rfl); done)); try simp only [Act.put, List.setIfInBounds_toArray, List.set_cons_zero, List.set_cons_succ]) | (refine wpMix_leave (by rfl) ?_; try simp only [Act.put, List.setIfInBounds_toArray, List.set_cons_zero, List.set_cons_succ])))
              refine wpMix_walk ?_
              go_wp2_with (go_at_call 15; (with_reducible refine useC (HVD.out w7 HF7.out) ?_); rintro e w8 ⟨v8, g8, rfl, -, hs, hf⟩; have HF8 : Hid (Fr [] w5 w8) := HF7.out.trans hf; have HC8 := Lib.hid hs; clear hs hf)
              refine MixQ.mk (HF8.out) ?_
              refine wpMix_nil ?_
              have hs8 := HSX.out w8 HF8.out
              obtain ⟨ga, -, hsa⟩ := hs8.ra
              have HIA := Lib.hid (ints_same w8 _ _ g8 ga _ HC8.out hsa)
              clear hs8 hsa
              go_wp2_with (go_at_call 14; (with_reducible refine useC HIA.out ?_); rintro e w10 ⟨rfl, hdr⟩; have HS10 := Lib.hid (HS5.out.step (HF8.out.trans (hdr.fr []))); clear hdr)
              clear HIA HEC HVD HSX HC8 HF7 HF8 HS5 HERR
              go_loopw [11] (fun i wr => ∃ j : Nat, j ≤ 8 ∧ i = .int .i64 j ∧ Hid (UxS w wr P5 b X (.slice A4 8 c4) (.slice A5 8 c5) (.slice A6 d5.was.length c6) d5 d5)) (fun i _ => 8 - (intOf i).toNat)
              case atStart => exact ⟨0, Nat.zero_le _, rfl, HS10⟩
              case round =>
                clear HS10
                obtain ⟨j, hj, rfl, hT⟩ := hrel
                by_cases hlt' : j < 8
                · have j1 : (j : Int) < 8 := by omega
                  have j0 : (0 : Int) ≤ j := by omega
                  have hba : Un.busyAt d5 j = nth d5.busy j := by
                    unfold Un.busyAt
                    rw [if_pos (by omega), Int.toNat_natCast]
                  obtain ⟨gq, -, hsq⟩ := hT.out.rc
                  obtain ⟨Aq, oq, cq, eq, -, hAq, hcq⟩ := hsq.form
                  rw [hT.out.ok.busy] at eq
                  injection eq with eq1 _ eq2
                  subst eq1 eq2
                  obtain rfl := hAq (by rw [hT.out.ok.busy]; decide)
                  have cj := hcq j (by rw [hT.out.ok.busy]; exact hlt')
                  have HQ := Lib.hid (fun W (hW : Fr [] wr W) => And.intro (hW.cell hT.out.box.cells.2.1 (by simp)) (hW.cell cj (by simp)))
                  have HTD := Lib.hid (hT.out.step ((Fr.refl [] wr).drew))
                  have HBY := Lib.hid (un_Busy wr.drew P5 b d5 j HTD.out.disk.file)
                  rw [hba] at HBY
                  clear hsq hAq hcq cj hba
                  generalize nth d5.busy j = y at *
                  go_wp2_with fail
                  (refine wp_region_mix (Fr [] wr ·) 8 [(true, 0), (true, 1), (true, 3), (true, 4), (true, 5), (true, 6), (true, 7), (false, 2)] (by kernel_rfl) (by kernel_rfl) ((Fr.refl _ _).drew) ?_; simp only [pickOps, List.map_cons, List.map_nil, List.getD_cons_zero, List.getD_cons_succ, List.drop_succ_cons, List.drop_zero])
                  (iterate 7 (first | (refine wpMix_take (v := ?_) (by rfl) ?_ ?_; rotate_left; (focus (intro W hW; obtain ⟨y1, y2⟩ := HQ.out W hW; go_simp; (try with_reducible rfl); done)); try simp only [Act.put, List.setIfInBounds_toArray, List.set_cons_zero, List.set_cons_succ]) | (refine wpMix_leave (by rfl) ?_; try simp only [Act.put, List.setIfInBounds_toArray, List.set_cons_zero, List.set_cons_succ])))
                  refine wpMix_walk ?_
                  go_wp2_with (go_at_call 16; (with_reducible refine useC HBY.out ?_); rintro e w11 ⟨rfl, rfl⟩)
                  refine MixQ.mk ((Fr.refl _ _).drew) ?_
                  refine wpMix_nil ?_
                  go_wp2
                  go_roundw
                  case rel => exact ⟨j + 1, by omega, by go_num, HTD⟩
                  case measure => (simp [intOf]; try omega)
                · have j1 : ¬ (j : Int) < 8 := by omega
                  clear hlt'
                  go_wp2
                  go_roundw
                  case rel => exact ⟨k + 1, by omega, by omega, by go_num, _, _, _, _, _, _, _, _, hT⟩
                  case measure => (simp [intOf]; try omega)
            · have b1 : (((nthR ls k).length : Int) == 1) = false := beq_eq_false_iff_ne.2 (by omega)
              have b2 : (((nthR ls k).length : Int) == 2) = false := beq_eq_false_iff_ne.2 (by omega)
              have b3 : (((nthR ls k).length : Int) == 3) = false := beq_eq_false_iff_ne.2 (by omega)
              have b4 : (((nthR ls k).length : Int) == 4) = false := beq_eq_false_iff_ne.2 (by omega)
              clear hc' hA'
              obtain ⟨w5, hw5⟩ : ∃ x, x = wr := ⟨_, rfl⟩
              subst hw5
              have HERR := Lib.hid (fun W (hW : Fr [] w W) => uerr_ok0 W (HE.out W hW))
              obtain ⟨d5, P5, A4, c4, A5, c5, A6, c6, HS5⟩ : ∃ d5 P5 A4 c4 A5 c5 A6 c6, Hid (UxS w w5 P5 b X (.slice A4 8 c4) (.slice A5 8 c5) (.slice A6 d5.was.length c6) d5 d5) := ⟨_, _, _, _, _, _, _, _, hS⟩
              clear x0 x1 x2 hfz hS
              have HSX := Lib.hid (fun W (hW : Fr [] w5 W) => HS5.out.step hW)
              have HVD := Lib.hid (fun W (hW : Fr [] w5 W) => un_Values W P5 b d5 (HS5.out.step hW).disk.file)
              have HEC := Lib.hid (HERR.out w5.drew HS5.out.fr.drew)
              go_wp2_with fail
              (refine wp_region_mix (Fr [] w5 ·) 9 [(true, 0), (true, 1), (false, 2), (true, 3), (true, 4), (true, 5), (true, 7), (true, 8), (false, 6)] (by kernel_rfl) (by kernel_rfl) ((Fr.refl _ _).drew) ?_; simp only [pickOps, List.map_cons, List.map_nil, List.getD_cons_zero, List.getD_cons_succ, List.drop_succ_cons, List.drop_zero])
              (iterate 2 (first | (refine wpMix_take (v := ?_) (by rfl) ?_ ?_; rotate_left; (focus (intro W hW; skip; go_simp; (try with_reducible rfl); done)); try simp only [Act.put, List.setIfInBounds_toArray, List.set_cons_zero, List.set_cons_succ]) | (refine wpMix_leave (by rfl) ?_; try simp only [Act.put, List.setIfInBounds_toArray, List.set_cons_zero, List.set_cons_succ])))
              refine wpMix_walk ?_
              go_wp2_with (go_at_call 13; (with_reducible refine useC HEC.out ?_); rintro e w7 ⟨rfl, hf⟩; have HF7 : Hid (Fr [] w5 w7) := ((Fr.refl [] w5).drew).trans hf; clear hf)
              refine MixQ.mk (HF7.out) ?_
              (iterate 5 (first | (refine wpMix_take (v := ?_) (by rfl) ?_ ?_; rotate_left; (focus (intro W hW; obtain ⟨⟨y0, y1, y2⟩, -⟩ := (HSX.out W hW).cells; go_simp; (try with_reducible rfl); done)); try simp only [Act.put, List.setIfInBounds_toArray, List.set_cons_zero, List.set_cons_succ]) | (refine wpMix_leave (by rfl) ?_; try simp only [Act.put, List.setIfInBounds_toArray, List.set_cons_zero, List.set_cons_succ])))
              refine wpMix_walk ?_
              go_wp2_with (go_at_call 15; (with_reducible refine useC (HVD.out w7 HF7.out) ?_); rintro e w8 ⟨v8, g8, rfl, -, hs, hf⟩; have HF8 : Hid (Fr [] w5 w8) := HF7.out.trans hf; have HC8 := Lib.hid hs; clear hs hf)
              refine MixQ.mk (HF8.out) ?_
              refine wpMix_nil ?_
              have hs8 := HSX.out w8 HF8.out
              obtain ⟨ga, -, hsa⟩ := hs8.ra
              have HIA := Lib.hid (ints_same w8 _ _ g8 ga _ HC8.out hsa)
              clear hs8 hsa
              go_wp2_with (go_at_call 14; (with_reducible refine useC HIA.out ?_); rintro e w10 ⟨rfl, hdr⟩; have HS10 := Lib.hid (HS5.out.step (HF8.out.trans (hdr.fr []))); clear hdr)
              clear HIA HEC HVD HSX HC8 HF7 HF8 HS5 HERR
              go_loopw [11] (fun i wr => ∃ j : Nat, j ≤ 8 ∧ i = .int .i64 j ∧ Hid (UxS w wr P5 b X (.slice A4 8 c4) (.slice A5 8 c5) (.slice A6 d5.was.length c6) d5 d5)) (fun i _ => 8 - (intOf i).toNat)
              case atStart => exact ⟨0, Nat.zero_le _, rfl, HS10⟩
              case round =>
                clear HS10
                obtain ⟨j, hj, rfl, hT⟩ := hrel
                by_cases hlt' : j < 8
                · have j1 : (j : Int) < 8 := by omega
                  have j0 : (0 : Int) ≤ j := by omega
                  have hba : Un.busyAt d5 j = nth d5.busy j := by
                    unfold Un.busyAt
                    rw [if_pos (by omega), Int.toNat_natCast]
                  obtain ⟨gq, -, hsq⟩ := hT.out.rc
                  obtain ⟨Aq, oq, cq, eq, -, hAq, hcq⟩ := hsq.form
                  rw [hT.out.ok.busy] at eq
                  injection eq with eq1 _ eq2
                  subst eq1 eq2
                  obtain rfl := hAq (by rw [hT.out.ok.busy]; decide)
                  have cj := hcq j (by rw [hT.out.ok.busy]; exact hlt')
                  have HQ := Lib.hid (fun W (hW : Fr [] wr W) => And.intro (hW.cell hT.out.box.cells.2.1 (by simp)) (hW.cell cj (by simp)))
                  have HTD := Lib.hid (hT.out.step ((Fr.refl [] wr).drew))
                  have HBY := Lib.hid (un_Busy wr.drew P5 b d5 j HTD.out.disk.file)
                  rw [hba] at HBY
                  clear hsq hAq hcq cj hba
                  generalize nth d5.busy j = y at *
                  go_wp2_with fail
                  (refine wp_region_mix (Fr [] wr ·) 8 [(true, 0), (true, 1), (true, 3), (true, 4), (true, 5), (true, 6), (true, 7), (false, 2)] (by kernel_rfl) (by kernel_rfl) ((Fr.refl _ _).drew) ?_; simp only [pickOps, List.map_cons, List.map_nil, List.getD_cons_zero, List.getD_cons_succ, List.drop_succ_cons, List.drop_zero])
                  (iterate 7 (first | (refine wpMix_take (v := ?_) (by rfl) ?_ ?_; rotate_left; (focus (intro W hW; obtain ⟨y1, y2⟩ := HQ.out W hW; go_simp; (try with_reducible rfl); done)); try simp only [Act.put, List.setIfInBounds_toArray, List.set_cons_zero, List.set_cons_succ]) | (refine wpMix_leave (by rfl) ?_; try simp only [Act.put, List.setIfInBounds_toArray, List.set_cons_zero, List.set_cons_succ])))
                  refine wpMix_walk ?_
                  go_wp2_with (go_at_call 16; (with_reducible refine useC HBY.out ?_); rintro e w11 ⟨rfl, rfl⟩)
                  refine MixQ.mk ((Fr.refl _ _).drew) ?_
                  refine wpMix_nil ?_
                  go_wp2
                  go_roundw
                  case rel => exact ⟨j + 1, by omega, by go_num, HTD⟩
                  case measure => (simp [intOf]; try omega)
                · have j1 : ¬ (j : Int) < 8 := by omega
                  clear hlt'
                  go_wp2
                  go_roundw
                  case rel => exact ⟨k + 1, by omega, by omega, by go_num, _, _, _, _, _, _, _, _, hT⟩
                  case measure => (simp [intOf]; try omega)
    · have hout : ¬ (k : Int) < ls.length ∨ ((k : Int) < ls.length ∧ ¬ (k : Int) < 80) := by omega
      have HB1 := Lib.hid (un_Busy wr P b d (-1) hS.out.disk.file)
      have HB2 := Lib.hid (un_Busy wr P b d 8 hS.out.disk.file)
      rw [show Un.busyAt d (-1) = -1 from if_neg (by omega)] at HB1
      rw [show Un.busyAt d 8 = -1 from if_neg (by omega)] at HB2
      rcases hout with hout | ⟨hout, hout'⟩
      all_goals
        go_wp2_with (first
          | (go_at_call 16; (with_reducible refine useC HB1.out ?_); rintro e wr ⟨rfl, rfl⟩)
          | (go_at_call 16; (with_reducible refine useC HB2.out ?_); rintro e wr ⟨rfl, rfl⟩))
        go_ret
        exact ⟨rfl, hS.out.fr⟩
end Go.Proofs.YtmhmbgkpojgbbabDoor
