/- WalPlays: any log, and anything that is done with it. Printed by wip/gen_wxplays.py. -/
import Derived.Test.YtmhmbgkpojgbbaaDoorWxPlays0
import Derived.Test.YtmhmbgkpojgbbaaDoorWlHome
import Derived.Test.YtmhmbgkpojgbbaaDoorWlCrash
import Derived.Test.YtmhmbgkpojgbbaaDoorCInts
import Derived.Test.YtmhmbgkpojgbbaaDoorRw2
namespace Go.Proofs.YtmhmbgkpojgbbaaDoor
open Go.RowKit

theorem Wl.nv_write {d : Wl.D} (h : Wl.Nv d.log) (t b v : Int) : Wl.Nv (Wl.write d t b v).1.log := by
  unfold Wl.write
  split
  · rename_i hw
    intro r hr he
    rcases List.mem_append.1 hr with hr | hr
    · exact h r hr he
    · simp only [List.mem_singleton] at hr
      subst hr
      exact (Wl.wrErr_zero hw).2.2.1.1
  · exact h
theorem Wl.nv_end {d : Wl.D} (h : Wl.Nv d.log) (t : Int) : Wl.Nv (Wl.end_ d t).1.log := by
  unfold Wl.end_
  split
  · intro r hr he
    rcases List.mem_append.1 hr with hr | hr
    · exact h r hr he
    · simp only [List.mem_singleton] at hr
      subst hr
      cases he
  · exact h
theorem Wl.nv_crash {d : Wl.D} (h : Wl.Nv d.log) (n : Int) : Wl.Nv (Wl.crash d n).1.log := by
  unfold Wl.crash
  split
  · intro r hr he
    exact h r (List.mem_of_mem_take (List.mem_filter.1 hr).1) he
  · exact h
theorem Wl.nv_home {d : Wl.D} (h : Wl.Nv d.log) : Wl.Nv (Wl.goHome d).1.log := by
  unfold Wl.goHome
  split
  · intro r hr; cases hr
  · exact h
theorem error_ok0 (w : World) (hg : ErrType w) : Calls Tryd.prog 12 #[.nilIface, .int .i64 0] w (OkT w) := error_yes 0 w hg
set_option maxRecDepth 100000 in
set_option maxHeartbeats 8000000 in
theorem wx_plays (w : World) (v : Value) (ls : List (List Int)) (hR : Rw w.heap.size w v ls) (hE : ErrType w) :
    Calls Tryd.prog 5 #[v] w (OkT w) := by
  have HE := Lib.hid (fun W (hW : Fr [] w W) => hE.fr hW (by simp))
  obtain ⟨A, g, o, c, rfl, hm, hF⟩ := hR
  have HF := Lib.hid hF
  clear hF hE
  go_enter Tryd.func5, Tryd.ntmps5
  go_wp2_with (first
    | (go_at_call 24; (with_reducible refine useC (wl_New w) ?_); rintro e w0 ⟨b, rfl, hs, hf⟩; have HD0 := Lib.hid (WlS.start hs hf); clear hs hf)
    | (go_at_call 25; (with_reducible refine useC (wx_New w0) ?_); rintro e w1 ⟨v, rfl, hv, hf⟩; obtain ⟨A1, c1, A2, c2, rfl, hS⟩ := WxS.start HD0.out hv hf; have HS := Lib.hid hS; clear hv hf hS HD0))
  revert HS
  generalize w1.alloc (.cells #[.slice A1 8 c1, .slice A2 0 c2, .int .i64 0] 57) = wA
  generalize w1.heap.size = X at *
  intro HS
  go_loopw [5] (fun i wr => ∃ k : Nat, k ≤ ls.length ∧ k ≤ 80 ∧ i = .int .i64 k ∧ ∃ P A1 c1 A2 c2 d, Hid (WxS w wr P b X (.slice A1 8 c1) (.slice A2 d.log.length c2) d d)) (fun i _ => 80 - (intOf i).toNat)
  case atStart => exact ⟨0, Nat.zero_le _, Nat.zero_le _, rfl, _, _, _, _, _, Wl.new, HS⟩
  case round =>
    clear HS
    obtain ⟨k, hk, hk6, rfl, P, A1, c1, A2, c2, d, hS⟩ := hrel
    by_cases hin : k < ls.length ∧ k < 80
    · obtain ⟨hlt, h60⟩ := hin
      obtain ⟨rfl, hg⟩ := HF.out.1 (by omega)
      obtain ⟨u, kb, hcell0, hkb, hsl, _⟩ := HF.out.2 k hlt
      have hcell := hS.out.fr.cell hcell0 (by simp)
      obtain ⟨A', o', c', rfl, hm', hA', hc'⟩ := hsl.form
      have i0 : (0 : Int) ≤ k := by omega
      have i1 : (k : Int) < ls.length := by omega
      have i6 : (k : Int) < 80 := by omega
      clear hsl hcell0 hkb
      obtain ⟨⟨x0, x1, x2⟩, hfz⟩ := hS.out.cells
      by_cases hl1 : (nthR ls k).length = 1
      · obtain rfl := hA' (by omega)
        have c0 := hc' 0 (by omega)
        rw [Nat.add_zero] at c0
        have HC0 := Lib.hid (fun W (hW : Fr [] w W) => hW.cell c0 (by simp))
        rw [hl1] at hcell 
        clear hc' hA' c0
        generalize nth (nthR ls k) 0 = y0 at *
        have HSD := Lib.hid (hS.out.step (Fr.refl [] wr).drew)
        have HCX := Lib.hid (wx_DownE wr.drew _ _ d y0 HSD.out.val HSD.out.ok.len HSD.out.nv HSD.out.new)
        have HOK := Lib.hid (Wl.end_ok HSD.out.ok y0)
        have HNV := Lib.hid (Wl.nv_end HSD.out.nv y0)
        have HDF := Lib.hid (fun W (hW : WlF P W b d) => wl_End W P b d y0 hW)
        generalize Wl.end_ d y0 = q at *
        obtain ⟨d5, er⟩ := q
        dsimp only at HCX HOK HNV HDF
        have c0 := HC0.out wr hS.out.fr
        have HERR := Lib.hid (fun W (hW : Fr [] w W) => error_ok W er (HE.out W hW))
        go_wp2_with fail
        (refine wp_region_mix (Fr [] w ·) 10 [(true, 1), (true, 2), (true, 3), (true, 4), (false, 0), (false, 5), (true, 6), (true, 7), (true, 8), (false, 9)] (by kernel_rfl) (by kernel_rfl) (hS.out.fr.drew) ?_; simp only [pickOps, List.map_cons, List.map_nil, List.getD_cons_zero, List.getD_cons_succ, List.drop_succ_cons, List.drop_zero])
        (iterate 4 (first | (refine wpMix_take (v := ?_) (by rfl) ?_ ?_; rotate_left; (focus (intro W hW; have c0 := HC0.out W hW; go_simp; (try with_reducible rfl); done)); try simp only [Act.put, List.setIfInBounds_toArray, List.set_cons_zero, List.set_cons_succ]) | (refine wpMix_leave (by rfl) ?_; try simp only [Act.put, List.setIfInBounds_toArray, List.set_cons_zero, List.set_cons_succ])))
        refine wpMix_walk ?_
        go_wp2
        refine MixQ.mk (HSD.out.fr) ?_
        refine wpMix_walk ?_
        go_wp2_with (go_at_call 26; (with_reducible refine useC HCX.out ?_); rintro e w2 ⟨v2, rfl, hv2, hf2⟩; obtain ⟨A4, c4, A5, c5, rfl⟩ := hv2.form HOK.out; have HS2 := Lib.hid (HSD.out.step hf2); have HS3 := Lib.hid (HSD.out.put hf2 hv2 HOK.out HNV.out); clear hv2 hf2)
        refine MixQ.mk (HS2.out.fr) ?_
        (iterate 3 (first | (refine wpMix_take (v := ?_) (by rfl) ?_ ?_; rotate_left; (focus (intro W hW; skip; go_simp; (try with_reducible rfl); done)); try simp only [Act.put, List.setIfInBounds_toArray, List.set_cons_zero, List.set_cons_succ]) | (refine wpMix_leave (by rfl) ?_; try simp only [Act.put, List.setIfInBounds_toArray, List.set_cons_zero, List.set_cons_succ])))
        refine wpMix_walk ?_
        clear x0 x1 x2 hfz
        obtain ⟨⟨x0, x1, x2⟩, hfz⟩ := HS2.out.cells
        go_wp2
        refine MixQ.mk (HS3.out.fr) ?_
        refine wpMix_nil ?_
        clear x0 x1 x2 hfz HCX HS2 HSD hS c0
        generalize (((w2.setCell ⟨X, 0, none⟩ (.slice A4 8 c4)).setCell ⟨X, 1, none⟩ (.slice A5 d5.log.length c5)).setCell ⟨X, 2, none⟩ (.int .i64 d5.syn)) = w3 at *
        have c0 := HC0.out w3 HS3.out.fr
        go_wp2_with (go_at_call 27; (with_reducible refine useC (HDF.out w3 HS3.out.disk.file) ?_); rintro e w5 ha; obtain ⟨rfl, hs⟩ := HS3.out.turn ha; obtain ⟨P5, HS5⟩ : ∃ P, Hid (WxS w w5 P b X (.slice A4 8 c4) (.slice A5 d5.log.length c5) d5 d5) := ⟨_, hs⟩; clear ha hs)
        clear HS3 HDF HOK HNV HC0 c0
        have HLG := Lib.hid (wl_Log w5 P5 b d5 HS5.out.disk.file)
        have HSX := Lib.hid (fun W (hW : Fr [] w5 W) => HS5.out.step hW)
        have HVX := Lib.hid (fun W (hW : Fr [] w5 W) => wx_Values W _ _ d5 (HS5.out.step hW).val HS5.out.ok HS5.out.nv (HS5.out.step hW).new)
        have HVD := Lib.hid (fun W (hW : Fr [] w5 W) => wl_Values W P5 b d5 (HS5.out.step hW).disk.file)
        go_wp2_with (go_at_call 34; (with_reducible refine useC HLG.out ?_); rintro e w6 ⟨rfl, hf⟩; have HF6 := Lib.hid hf; have HEC := Lib.hid (HERR.out w6.drew (HS5.out.fr.trans hf.drew)); clear hf)
        (refine wp_region_mix (Fr [] w6 ·) 21 [(true, 0), (true, 1), (false, 2), (true, 3), (true, 4), (true, 5), (true, 6), (true, 7), (true, 8), (true, 9), (true, 10), (true, 11), (true, 12), (true, 13), (true, 14), (true, 15), (true, 16), (true, 17), (true, 18), (true, 20), (false, 19)] (by kernel_rfl) (by kernel_rfl) ((Fr.refl _ _).drew) ?_; simp only [pickOps, List.map_cons, List.map_nil, List.getD_cons_zero, List.getD_cons_succ, List.drop_succ_cons, List.drop_zero])
        (iterate 2 (first | (refine wpMix_take (v := ?_) (by rfl) ?_ ?_; rotate_left; (focus (intro W hW; skip; go_simp; (try with_reducible rfl); done)); try simp only [Act.put, List.setIfInBounds_toArray, List.set_cons_zero, List.set_cons_succ]) | (refine wpMix_leave (by rfl) ?_; try simp only [Act.put, List.setIfInBounds_toArray, List.set_cons_zero, List.set_cons_succ])))
        refine wpMix_walk ?_
        go_wp2_with (go_at_call 12; (with_reducible refine useC HEC.out ?_); rintro e w7 ⟨rfl, hf⟩; have HF7 : Hid (Fr [] w6 w7) := ((Fr.refl [] w6).drew).trans hf; clear hf)
        refine MixQ.mk (HF7.out) ?_
        (iterate 17 (first | (refine wpMix_take (v := ?_) (by rfl) ?_ ?_; rotate_left; (focus (intro W hW; obtain ⟨⟨y0, y1, y2⟩, -⟩ := (HSX.out W (HF6.out.trans hW)).cells; go_simp; (try with_reducible rfl); done)); try simp only [Act.put, List.setIfInBounds_toArray, List.set_cons_zero, List.set_cons_succ]) | (refine wpMix_leave (by rfl) ?_; try simp only [Act.put, List.setIfInBounds_toArray, List.set_cons_zero, List.set_cons_succ])))
        refine wpMix_walk ?_
        go_wp2_with (go_at_call 35; (with_reducible refine useC (HVD.out w7 (HF6.out.trans HF7.out)) ?_); rintro e w8 ⟨v8, g8, rfl, -, hs, hf⟩; have HF8 : Hid (Fr [] w6 w8) := HF7.out.trans hf; have HC8 := Lib.hid hs; clear hs hf)
        refine MixQ.mk (HF8.out) ?_
        refine wpMix_nil ?_
        go_wp2_with (first
          | (go_at_call 36; (with_reducible refine useC (HVX.out w8 (HF6.out.trans HF8.out)) ?_); rintro e w9 ⟨v9, g9, rfl, -, hs, hf⟩; have HF9 : Hid (Fr [] w6 w9) := HF8.out.trans hf; have HC9 := Lib.hid hs; have HC8' := Lib.hid (HC8.out.fr hf (by simp)); clear hs hf)
          | (go_at_call 15; (with_reducible refine useC (ints_same w9 _ _ g8 g9 _ HC8'.out HC9.out) ?_); rintro e w10 ⟨rfl, hdr⟩; have HS10 := Lib.hid (HS5.out.step (HF6.out.trans (HF9.out.trans (hdr.fr [])))); clear hdr))
        go_roundw
        case rel => exact ⟨k + 1, by omega, by omega, by go_num, _, _, _, _, _, _, HS10⟩
        case measure => simp [intOf]; omega
      · by_cases hl2 : (nthR ls k).length = 2
        · obtain rfl := hA' (by omega)
          have c0 := hc' 0 (by omega)
          rw [Nat.add_zero] at c0
          have HC0 := Lib.hid (fun W (hW : Fr [] w W) => hW.cell c0 (by simp))
          have b1 : (((nthR ls k).length : Int) == 1) = false := beq_eq_false_iff_ne.2 (by omega)
          rw [hl2] at hcell b1
          clear hc' hA' c0
          generalize nth (nthR ls k) 0 = y0 at *
          have HSD := Lib.hid (hS.out.step (Fr.refl [] wr).drew)
          have HCX := Lib.hid (wx_Crash wr.drew _ _ d y0 HSD.out.val HSD.out.ok.len HSD.out.nv HSD.out.new)
          have HOK := Lib.hid (Wl.crash_ok HSD.out.ok y0)
          have HNV := Lib.hid (Wl.nv_crash HSD.out.nv y0)
          have HDF := Lib.hid (fun W (hW : WlF P W b d) => wl_Crash W P b d y0 hW)
          generalize Wl.crash d y0 = q at *
          obtain ⟨d5, er⟩ := q
          dsimp only at HCX HOK HNV HDF
          have c0 := HC0.out wr hS.out.fr
          have HERR := Lib.hid (fun W (hW : Fr [] w W) => error_ok W er (HE.out W hW))
          go_wp2_with fail
          (refine wp_region_mix (Fr [] w ·) 9 [(true, 1), (true, 2), (true, 3), (false, 0), (false, 4), (true, 5), (true, 6), (true, 7), (false, 8)] (by kernel_rfl) (by kernel_rfl) (hS.out.fr.drew) ?_; simp only [pickOps, List.map_cons, List.map_nil, List.getD_cons_zero, List.getD_cons_succ, List.drop_succ_cons, List.drop_zero])
          (iterate 3 (first | (refine wpMix_take (v := ?_) (by rfl) ?_ ?_; rotate_left; (focus (intro W hW; have c0 := HC0.out W hW; go_simp; (try with_reducible rfl); done)); try simp only [Act.put, List.setIfInBounds_toArray, List.set_cons_zero, List.set_cons_succ]) | (refine wpMix_leave (by rfl) ?_; try simp only [Act.put, List.setIfInBounds_toArray, List.set_cons_zero, List.set_cons_succ])))
          refine wpMix_walk ?_
          go_wp2
          refine MixQ.mk (HSD.out.fr) ?_
          refine wpMix_walk ?_
          go_wp2_with (go_at_call 28; (with_reducible refine useC HCX.out ?_); rintro e w2 ⟨v2, rfl, hv2, hf2⟩; obtain ⟨A4, c4, A5, c5, rfl⟩ := hv2.form HOK.out; have HS2 := Lib.hid (HSD.out.step hf2); have HS3 := Lib.hid (HSD.out.put hf2 hv2 HOK.out HNV.out); clear hv2 hf2)
          refine MixQ.mk (HS2.out.fr) ?_
          (iterate 3 (first | (refine wpMix_take (v := ?_) (by rfl) ?_ ?_; rotate_left; (focus (intro W hW; skip; go_simp; (try with_reducible rfl); done)); try simp only [Act.put, List.setIfInBounds_toArray, List.set_cons_zero, List.set_cons_succ]) | (refine wpMix_leave (by rfl) ?_; try simp only [Act.put, List.setIfInBounds_toArray, List.set_cons_zero, List.set_cons_succ])))
          refine wpMix_walk ?_
          clear x0 x1 x2 hfz
          obtain ⟨⟨x0, x1, x2⟩, hfz⟩ := HS2.out.cells
          go_wp2
          refine MixQ.mk (HS3.out.fr) ?_
          refine wpMix_nil ?_
          clear x0 x1 x2 hfz HCX HS2 HSD hS c0
          generalize (((w2.setCell ⟨X, 0, none⟩ (.slice A4 8 c4)).setCell ⟨X, 1, none⟩ (.slice A5 d5.log.length c5)).setCell ⟨X, 2, none⟩ (.int .i64 d5.syn)) = w3 at *
          have c0 := HC0.out w3 HS3.out.fr
          go_wp2_with (go_at_call 29; (with_reducible refine useC (HDF.out w3 HS3.out.disk.file) ?_); rintro e w5 ha; obtain ⟨rfl, hs⟩ := HS3.out.turn ha; obtain ⟨P5, HS5⟩ : ∃ P, Hid (WxS w w5 P b X (.slice A4 8 c4) (.slice A5 d5.log.length c5) d5 d5) := ⟨_, hs⟩; clear ha hs)
          clear HS3 HDF HOK HNV HC0 c0
          have HLG := Lib.hid (wl_Log w5 P5 b d5 HS5.out.disk.file)
          have HSX := Lib.hid (fun W (hW : Fr [] w5 W) => HS5.out.step hW)
          have HVX := Lib.hid (fun W (hW : Fr [] w5 W) => wx_Values W _ _ d5 (HS5.out.step hW).val HS5.out.ok HS5.out.nv (HS5.out.step hW).new)
          have HVD := Lib.hid (fun W (hW : Fr [] w5 W) => wl_Values W P5 b d5 (HS5.out.step hW).disk.file)
          go_wp2_with (go_at_call 34; (with_reducible refine useC HLG.out ?_); rintro e w6 ⟨rfl, hf⟩; have HF6 := Lib.hid hf; have HEC := Lib.hid (HERR.out w6.drew (HS5.out.fr.trans hf.drew)); clear hf)
          (refine wp_region_mix (Fr [] w6 ·) 21 [(true, 0), (true, 1), (false, 2), (true, 3), (true, 4), (true, 5), (true, 6), (true, 7), (true, 8), (true, 9), (true, 10), (true, 11), (true, 12), (true, 13), (true, 14), (true, 15), (true, 16), (true, 17), (true, 18), (true, 20), (false, 19)] (by kernel_rfl) (by kernel_rfl) ((Fr.refl _ _).drew) ?_; simp only [pickOps, List.map_cons, List.map_nil, List.getD_cons_zero, List.getD_cons_succ, List.drop_succ_cons, List.drop_zero])
          (iterate 2 (first | (refine wpMix_take (v := ?_) (by rfl) ?_ ?_; rotate_left; (focus (intro W hW; skip; go_simp; (try with_reducible rfl); done)); try simp only [Act.put, List.setIfInBounds_toArray, List.set_cons_zero, List.set_cons_succ]) | (refine wpMix_leave (by rfl) ?_; try simp only [Act.put, List.setIfInBounds_toArray, List.set_cons_zero, List.set_cons_succ])))
          refine wpMix_walk ?_
          go_wp2_with (go_at_call 12; (with_reducible refine useC HEC.out ?_); rintro e w7 ⟨rfl, hf⟩; have HF7 : Hid (Fr [] w6 w7) := ((Fr.refl [] w6).drew).trans hf; clear hf)
          refine MixQ.mk (HF7.out) ?_
          (iterate 17 (first | (refine wpMix_take (v := ?_) (by rfl) ?_ ?_; rotate_left; (focus (intro W hW; obtain ⟨⟨y0, y1, y2⟩, -⟩ := (HSX.out W (HF6.out.trans hW)).cells; go_simp; (try with_reducible rfl); done)); try simp only [Act.put, List.setIfInBounds_toArray, List.set_cons_zero, List.set_cons_succ]) | (refine wpMix_leave (by rfl) ?_; try simp only [Act.put, List.setIfInBounds_toArray, List.set_cons_zero, List.set_cons_succ])))
          refine wpMix_walk ?_
          go_wp2_with (go_at_call 35; (with_reducible refine useC (HVD.out w7 (HF6.out.trans HF7.out)) ?_); rintro e w8 ⟨v8, g8, rfl, -, hs, hf⟩; have HF8 : Hid (Fr [] w6 w8) := HF7.out.trans hf; have HC8 := Lib.hid hs; clear hs hf)
          refine MixQ.mk (HF8.out) ?_
          refine wpMix_nil ?_
          go_wp2_with (first
            | (go_at_call 36; (with_reducible refine useC (HVX.out w8 (HF6.out.trans HF8.out)) ?_); rintro e w9 ⟨v9, g9, rfl, -, hs, hf⟩; have HF9 : Hid (Fr [] w6 w9) := HF8.out.trans hf; have HC9 := Lib.hid hs; have HC8' := Lib.hid (HC8.out.fr hf (by simp)); clear hs hf)
            | (go_at_call 15; (with_reducible refine useC (ints_same w9 _ _ g8 g9 _ HC8'.out HC9.out) ?_); rintro e w10 ⟨rfl, hdr⟩; have HS10 := Lib.hid (HS5.out.step (HF6.out.trans (HF9.out.trans (hdr.fr [])))); clear hdr))
          go_roundw
          case rel => exact ⟨k + 1, by omega, by omega, by go_num, _, _, _, _, _, _, HS10⟩
          case measure => simp [intOf]; omega
        · by_cases hl3 : (nthR ls k).length = 3
          · obtain rfl := hA' (by omega)
            have c0 := hc' 0 (by omega)
            have c1' := hc' 1 (by omega)
            have c2' := hc' 2 (by omega)
            rw [Nat.add_zero] at c0
            have HC0 := Lib.hid (fun W (hW : Fr [] w W) => And.intro (hW.cell c0 (by simp)) (And.intro (hW.cell c1' (by simp)) (hW.cell c2' (by simp))))
            have b1 : (((nthR ls k).length : Int) == 1) = false := beq_eq_false_iff_ne.2 (by omega)
            have b2 : (((nthR ls k).length : Int) == 2) = false := beq_eq_false_iff_ne.2 (by omega)
            rw [hl3] at hcell b1 b2
            clear hc' hA' c0 c1' c2'
            generalize nth (nthR ls k) 0 = y0 at *
            generalize nth (nthR ls k) 1 = y1 at *
            generalize nth (nthR ls k) 2 = y2 at *
            obtain ⟨c0, c1', c2'⟩ := HC0.out wr hS.out.fr
            have HSD := Lib.hid (hS.out.step ((Fr.refl [] wr).alloc (.cells #[.int .i64 y0, .int .i64 y1, .int .i64 y2] 49)).drew)
            have HPN : Hid ((wr.alloc (.cells #[.int .i64 y0, .int .i64 y1, .int .i64 y2] 49)).drew.heap[wr.heap.size]? = some (.cells #[.int .i64 y0, .int .i64 y1, .int .i64 y2] 49 (0, 0))) := heap_alloc_new wr _
            have hpx : X < wr.heap.size := lt_of_heap hS.out.box
            go_wp2_with fail
            (refine wp_region_mix (Fr [] w ·) 11 [(true, 0), (true, 1), (true, 2), (true, 3), (true, 4), (true, 5), (true, 6), (true, 7), (true, 8), (true, 9), (false, 10)] (by kernel_rfl) (by kernel_rfl) (hS.out.fr.drew) ?_; simp only [pickOps, List.map_cons, List.map_nil, List.getD_cons_zero, List.getD_cons_succ, List.drop_succ_cons, List.drop_zero])
            (iterate 10 (first | (refine wpMix_take (v := ?_) (by rfl) ?_ ?_; rotate_left; (focus (intro W hW; obtain ⟨c0, c1', c2'⟩ := HC0.out W hW; go_simp; (try with_reducible rfl); done)); try simp only [Act.put, List.setIfInBounds_toArray, List.set_cons_zero, List.set_cons_succ]) | (refine wpMix_leave (by rfl) ?_; try simp only [Act.put, List.setIfInBounds_toArray, List.set_cons_zero, List.set_cons_succ])))
            refine wpMix_walk ?_
            go_wp2
            refine MixQ.mk (hS.out.fr.drew.alloc _) ?_
            refine wpMix_nil ?_
            clear c0 c1' c2' HC0
            go_wp2_with fail
            revert HSD HPN
            generalize (wr.alloc (.cells #[.int .i64 y0, .int .i64 y1, .int .i64 y2] 49)).drew = w1
            generalize wr.heap.size = PB at *
            intro HSD HPN
            have hpn : PB ≠ X := by omega
            have HPX := Lib.hid hpn
            clear hpx hpn x0 x1 x2 hfz hS
            obtain ⟨⟨x0, x1, x2⟩, hfz⟩ := HSD.out.cells
            have HCX := Lib.hid (wx_DownW w1 _ _ d y0 y1 y2 HSD.out.val HSD.out.ok.len HSD.out.nv HSD.out.new)
            have HOK := Lib.hid (Wl.write_ok HSD.out.ok y0 y1 y2)
            have HNV := Lib.hid (Wl.nv_write HSD.out.nv y0 y1 y2)
            have HDF := Lib.hid (fun W (hW : WlF P W b d) => wl_Write W P b d y0 y1 y2 hW)
            generalize Wl.write d y0 y1 y2 = q at *
            obtain ⟨d5, er⟩ := q
            dsimp only at HCX HOK HNV HDF
            have HERR := Lib.hid (fun W (hW : Fr [] w W) => error_ok W er (HE.out W hW))
            go_wp2_with (first
              | (go_at_call 26; (with_reducible refine useC HCX.out ?_); rintro e w2 ⟨v2, rfl, hv2, hf2⟩; obtain ⟨A4, c4, A5, c5, rfl⟩ := hv2.form HOK.out; have HS2 := Lib.hid (HSD.out.step hf2); have hs3 := HSD.out.put hf2 hv2 HOK.out HNV.out; obtain ⟨w3, hw3⟩ : ∃ x, x = (((w2.setCell ⟨X, 0, none⟩ (.slice A4 8 c4)).setCell ⟨X, 1, none⟩ (.slice A5 d5.log.length c5)).setCell ⟨X, 2, none⟩ (.int .i64 d5.syn)) := ⟨_, rfl⟩; rw [← hw3] at hs3; have HS3 := Lib.hid hs3; have HP3 : Hid (w3.heap[PB]? = some (.cells #[.int .i64 y0, .int .i64 y1, .int .i64 y2] 49 (0, 0))) := (by rw [hw3]; exact ((((Fr.refl [X] w2).setCell (.inl (by simp)) _).setCell (.inl (by simp)) _).setCell (.inl (by simp)) _).get (hf2.get HPN.out (by simp)) (by simpa using HPX.out)); have HW3 := Lib.hid hw3; clear hv2 hf2 hw3 hs3 x0 x1 x2 hfz; obtain ⟨⟨x0, x1, x2⟩, hfz⟩ := HS2.out.cells)
              | (rw [← HW3.out]; clear HW3 x0 x1 x2 hfz; have p0 : w3.cell? ⟨PB, 0, none⟩ = some (.int .i64 y0) := (by rw [cell_of_row _ _ _ _ _ _ HP3.out]; rfl); have p1 : w3.cell? ⟨PB, 1, none⟩ = some (.int .i64 y1) := (by rw [cell_of_row _ _ _ _ _ _ HP3.out]; rfl); have p2 : w3.cell? ⟨PB, 2, none⟩ = some (.int .i64 y2) := (by rw [cell_of_row _ _ _ _ _ _ HP3.out]; rfl))
              | (go_at_call 30; (with_reducible refine useC (HDF.out w3 HS3.out.disk.file) ?_); rintro e w5 ha; obtain ⟨rfl, hs⟩ := HS3.out.turn ha; obtain ⟨P5, HS5⟩ : ∃ P, Hid (WxS w w5 P b X (.slice A4 8 c4) (.slice A5 d5.log.length c5) d5 d5) := ⟨_, hs⟩; clear ha hs p0 p1 p2; go_wp2_with fail))
            clear HS3 HDF HOK HNV HCX HSD HPN HP3 HS2
            have HLG := Lib.hid (wl_Log w5 P5 b d5 HS5.out.disk.file)
            have HSX := Lib.hid (fun W (hW : Fr [] w5 W) => HS5.out.step hW)
            have HVX := Lib.hid (fun W (hW : Fr [] w5 W) => wx_Values W _ _ d5 (HS5.out.step hW).val HS5.out.ok HS5.out.nv (HS5.out.step hW).new)
            have HVD := Lib.hid (fun W (hW : Fr [] w5 W) => wl_Values W P5 b d5 (HS5.out.step hW).disk.file)
            go_wp2_with (go_at_call 34; (with_reducible refine useC HLG.out ?_); rintro e w6 ⟨rfl, hf⟩; have HF6 := Lib.hid hf; have HEC := Lib.hid (HERR.out w6.drew (HS5.out.fr.trans hf.drew)); clear hf)
            (refine wp_region_mix (Fr [] w6 ·) 21 [(true, 0), (true, 1), (false, 2), (true, 3), (true, 4), (true, 5), (true, 6), (true, 7), (true, 8), (true, 9), (true, 10), (true, 11), (true, 12), (true, 13), (true, 14), (true, 15), (true, 16), (true, 17), (true, 18), (true, 20), (false, 19)] (by kernel_rfl) (by kernel_rfl) ((Fr.refl _ _).drew) ?_; simp only [pickOps, List.map_cons, List.map_nil, List.getD_cons_zero, List.getD_cons_succ, List.drop_succ_cons, List.drop_zero])
            (iterate 2 (first | (refine wpMix_take (v := ?_) (by rfl) ?_ ?_; rotate_left; (focus (intro W hW; skip; go_simp; (try with_reducible rfl); done)); try simp only [Act.put, List.setIfInBounds_toArray, List.set_cons_zero, List.set_cons_succ]) | (refine wpMix_leave (by rfl) ?_; try simp only [Act.put, List.setIfInBounds_toArray, List.set_cons_zero, List.set_cons_succ])))
            refine wpMix_walk ?_
            go_wp2_with (go_at_call 12; (with_reducible refine useC HEC.out ?_); rintro e w7 ⟨rfl, hf⟩; have HF7 : Hid (Fr [] w6 w7) := ((Fr.refl [] w6).drew).trans hf; clear hf)
            refine MixQ.mk (HF7.out) ?_
            (iterate 17 (first | (refine wpMix_take (v := ?_) (by rfl) ?_ ?_; rotate_left; (focus (intro W hW; obtain ⟨⟨y0, y1, y2⟩, -⟩ := (HSX.out W (HF6.out.trans hW)).cells; go_simp; (try with_reducible rfl); done)); try simp only [Act.put, List.setIfInBounds_toArray, List.set_cons_zero, List.set_cons_succ]) | (refine wpMix_leave (by rfl) ?_; try simp only [Act.put, List.setIfInBounds_toArray, List.set_cons_zero, List.set_cons_succ])))
            refine wpMix_walk ?_
            go_wp2_with (go_at_call 35; (with_reducible refine useC (HVD.out w7 (HF6.out.trans HF7.out)) ?_); rintro e w8 ⟨v8, g8, rfl, -, hs, hf⟩; have HF8 : Hid (Fr [] w6 w8) := HF7.out.trans hf; have HC8 := Lib.hid hs; clear hs hf)
            refine MixQ.mk (HF8.out) ?_
            refine wpMix_nil ?_
            go_wp2_with (first
              | (go_at_call 36; (with_reducible refine useC (HVX.out w8 (HF6.out.trans HF8.out)) ?_); rintro e w9 ⟨v9, g9, rfl, -, hs, hf⟩; have HF9 : Hid (Fr [] w6 w9) := HF8.out.trans hf; have HC9 := Lib.hid hs; have HC8' := Lib.hid (HC8.out.fr hf (by simp)); clear hs hf)
              | (go_at_call 15; (with_reducible refine useC (ints_same w9 _ _ g8 g9 _ HC8'.out HC9.out) ?_); rintro e w10 ⟨rfl, hdr⟩; have HS10 := Lib.hid (HS5.out.step (HF6.out.trans (HF9.out.trans (hdr.fr [])))); clear hdr))
            go_roundw
            case rel => exact ⟨k + 1, by omega, by omega, by go_num, _, _, _, _, _, _, HS10⟩
            case measure => simp [intOf]; omega
          · by_cases hl4 : (nthR ls k).length = 4
            · have b1 : (((nthR ls k).length : Int) == 1) = false := beq_eq_false_iff_ne.2 (by omega)
              have b2 : (((nthR ls k).length : Int) == 2) = false := beq_eq_false_iff_ne.2 (by omega)
              have b3 : (((nthR ls k).length : Int) == 3) = false := beq_eq_false_iff_ne.2 (by omega)
              rw [hl4] at hcell b1 b2 b3
              have HS3 := Lib.hid (hS.out.sync)
              have HERR := Lib.hid (fun W (hW : Fr [] w W) => error_ok0 W (HE.out W hW))
              clear hc' hA'
              go_wp2_with fail
              obtain ⟨w3, hw3⟩ : ∃ x, x = wr.setCell ⟨X, 2, none⟩ (.int .i64 d.log.length) := ⟨_, rfl⟩
              rw [← hw3]
              rw [← hw3] at HS3
              clear hw3 x0 x1 x2 hfz hS
              have HSY := Lib.hid (wl_Sync w3.drew P b d (HS3.out.step ((Fr.refl [] w3).drew)).disk.file)
              (refine wp_region_mix ((WxX · X (.slice A1 8 c1) (.slice A2 d.log.length c2) d.log.length)) 4 [(true, 0), (true, 2), (true, 3), (false, 1)] (by kernel_rfl) (by kernel_rfl) ((Fr.refl [] w3).drew.get HS3.out.box (by simp)) ?_; simp only [pickOps, List.map_cons, List.map_nil, List.getD_cons_zero, List.getD_cons_succ, List.drop_succ_cons, List.drop_zero])
              (iterate 3 (first | (refine wpMix_take (v := ?_) (by rfl) ?_ ?_; rotate_left; (focus (intro W hW; obtain ⟨y0, y1, y2⟩ := WxX.cells hW; go_simp; (try with_reducible rfl); done)); try simp only [Act.put, List.setIfInBounds_toArray, List.set_cons_zero, List.set_cons_succ]) | (refine wpMix_leave (by rfl) ?_; try simp only [Act.put, List.setIfInBounds_toArray, List.set_cons_zero, List.set_cons_succ])))
              refine wpMix_walk ?_
              go_wp2_with (go_at_call 31; (with_reducible refine useC HSY.out ?_); rintro e w5 ha; obtain ⟨rfl, hs⟩ := (HS3.out.step ((Fr.refl [] w3).drew)).turn ha; have HB5 := Lib.hid hs.box; have HS5 := Lib.hid hs; clear ha hs)
              refine MixQ.mk (HB5.out) ?_
              refine wpMix_nil ?_
              obtain ⟨d5, P5, A4, c4, A5, c5, HS5⟩ : ∃ d5 P5 A4 c4 A5 c5, Hid (WxS w w5 P5 b X (.slice A4 8 c4) (.slice A5 d5.log.length c5) d5 d5) := ⟨Wl.sync d, _, A1, c1, A2, c2, HS5⟩
              clear HSY HB5 HS3
              have HLG := Lib.hid (wl_Log w5 P5 b d5 HS5.out.disk.file)
              have HSX := Lib.hid (fun W (hW : Fr [] w5 W) => HS5.out.step hW)
              have HVX := Lib.hid (fun W (hW : Fr [] w5 W) => wx_Values W _ _ d5 (HS5.out.step hW).val HS5.out.ok HS5.out.nv (HS5.out.step hW).new)
              have HVD := Lib.hid (fun W (hW : Fr [] w5 W) => wl_Values W P5 b d5 (HS5.out.step hW).disk.file)
              go_wp2_with (go_at_call 34; (with_reducible refine useC HLG.out ?_); rintro e w6 ⟨rfl, hf⟩; have HF6 := Lib.hid hf; have HEC := Lib.hid (HERR.out w6.drew (HS5.out.fr.trans hf.drew)); clear hf)
              (refine wp_region_mix (Fr [] w6 ·) 21 [(true, 0), (true, 1), (false, 2), (true, 3), (true, 4), (true, 5), (true, 6), (true, 7), (true, 8), (true, 9), (true, 10), (true, 11), (true, 12), (true, 13), (true, 14), (true, 15), (true, 16), (true, 17), (true, 18), (true, 20), (false, 19)] (by kernel_rfl) (by kernel_rfl) ((Fr.refl _ _).drew) ?_; simp only [pickOps, List.map_cons, List.map_nil, List.getD_cons_zero, List.getD_cons_succ, List.drop_succ_cons, List.drop_zero])
              (iterate 2 (first | (refine wpMix_take (v := ?_) (by rfl) ?_ ?_; rotate_left; (focus (intro W hW; skip; go_simp; (try with_reducible rfl); done)); try simp only [Act.put, List.setIfInBounds_toArray, List.set_cons_zero, List.set_cons_succ]) | (refine wpMix_leave (by rfl) ?_; try simp only [Act.put, List.setIfInBounds_toArray, List.set_cons_zero, List.set_cons_succ])))
              refine wpMix_walk ?_
              go_wp2_with (go_at_call 12; (with_reducible refine useC HEC.out ?_); rintro e w7 ⟨rfl, hf⟩; have HF7 : Hid (Fr [] w6 w7) := ((Fr.refl [] w6).drew).trans hf; clear hf)
              refine MixQ.mk (HF7.out) ?_
              (iterate 17 (first | (refine wpMix_take (v := ?_) (by rfl) ?_ ?_; rotate_left; (focus (intro W hW; obtain ⟨⟨y0, y1, y2⟩, -⟩ := (HSX.out W (HF6.out.trans hW)).cells; go_simp; (try with_reducible rfl); done)); try simp only [Act.put, List.setIfInBounds_toArray, List.set_cons_zero, List.set_cons_succ]) | (refine wpMix_leave (by rfl) ?_; try simp only [Act.put, List.setIfInBounds_toArray, List.set_cons_zero, List.set_cons_succ])))
              refine wpMix_walk ?_
              go_wp2_with (go_at_call 35; (with_reducible refine useC (HVD.out w7 (HF6.out.trans HF7.out)) ?_); rintro e w8 ⟨v8, g8, rfl, -, hs, hf⟩; have HF8 : Hid (Fr [] w6 w8) := HF7.out.trans hf; have HC8 := Lib.hid hs; clear hs hf)
              refine MixQ.mk (HF8.out) ?_
              refine wpMix_nil ?_
              go_wp2_with (first
                | (go_at_call 36; (with_reducible refine useC (HVX.out w8 (HF6.out.trans HF8.out)) ?_); rintro e w9 ⟨v9, g9, rfl, -, hs, hf⟩; have HF9 : Hid (Fr [] w6 w9) := HF8.out.trans hf; have HC9 := Lib.hid hs; have HC8' := Lib.hid (HC8.out.fr hf (by simp)); clear hs hf)
                | (go_at_call 15; (with_reducible refine useC (ints_same w9 _ _ g8 g9 _ HC8'.out HC9.out) ?_); rintro e w10 ⟨rfl, hdr⟩; have HS10 := Lib.hid (HS5.out.step (HF6.out.trans (HF9.out.trans (hdr.fr [])))); clear hdr))
              go_roundw
              case rel => exact ⟨k + 1, by omega, by omega, by go_num, _, _, _, _, _, _, HS10⟩
              case measure => simp [intOf]; omega
            · by_cases hl5 : (nthR ls k).length = 5
              · have b1 : (((nthR ls k).length : Int) == 1) = false := beq_eq_false_iff_ne.2 (by omega)
                have b2 : (((nthR ls k).length : Int) == 2) = false := beq_eq_false_iff_ne.2 (by omega)
                have b3 : (((nthR ls k).length : Int) == 3) = false := beq_eq_false_iff_ne.2 (by omega)
                have b4 : (((nthR ls k).length : Int) == 4) = false := beq_eq_false_iff_ne.2 (by omega)
                rw [hl5] at hcell b1 b2 b3 b4
                clear hc' hA'
                have HCX := Lib.hid (wx_AtHome wr _ _ d hS.out.val hS.out.ok hS.out.nv hS.out.new)
                have HOK := Lib.hid (Wl.goHome_ok hS.out.ok)
                have HNV := Lib.hid (Wl.nv_home hS.out.nv)
                have HDF := Lib.hid (fun W (hW : WlF P W b d) => wl_Home W P b d hW)
                generalize Wl.goHome d = q at *
                obtain ⟨d5, er⟩ := q
                dsimp only at HCX HOK HNV HDF
                have HERR := Lib.hid (fun W (hW : Fr [] w W) => error_ok W er (HE.out W hW))
                go_wp2_with (first
                  | (go_at_call 32; (with_reducible refine useC HCX.out ?_); rintro e w2 ⟨v2, rfl, hv2, hf2⟩; obtain ⟨A4, c4, A5, c5, rfl⟩ := hv2.form HOK.out; have HS2 := Lib.hid (hS.out.step hf2); have hs3 := hS.out.put hf2 hv2 HOK.out HNV.out; obtain ⟨w3, hw3⟩ : ∃ x, x = (((w2.setCell ⟨X, 0, none⟩ (.slice A4 8 c4)).setCell ⟨X, 1, none⟩ (.slice A5 d5.log.length c5)).setCell ⟨X, 2, none⟩ (.int .i64 d5.syn)) := ⟨_, rfl⟩; rw [← hw3] at hs3; have HS3 := Lib.hid hs3; have HW3 := Lib.hid hw3; clear hv2 hf2 hw3 hs3 x0 x1 x2 hfz; obtain ⟨⟨x0, x1, x2⟩, hfz⟩ := HS2.out.cells)
                  | (rw [← HW3.out]; clear HW3 x0 x1 x2 hfz)
                  | (go_at_call 33; (with_reducible refine useC (HDF.out w3 HS3.out.disk.file) ?_); rintro e w5 ha; obtain ⟨rfl, hs⟩ := HS3.out.turn ha; obtain ⟨P5, HS5⟩ : ∃ P, Hid (WxS w w5 P b X (.slice A4 8 c4) (.slice A5 d5.log.length c5) d5 d5) := ⟨_, hs⟩; clear ha hs; go_wp2_with fail))
                clear HS3 HDF HOK HNV HCX HS2 hS
                have HLG := Lib.hid (wl_Log w5 P5 b d5 HS5.out.disk.file)
                have HSX := Lib.hid (fun W (hW : Fr [] w5 W) => HS5.out.step hW)
                have HVX := Lib.hid (fun W (hW : Fr [] w5 W) => wx_Values W _ _ d5 (HS5.out.step hW).val HS5.out.ok HS5.out.nv (HS5.out.step hW).new)
                have HVD := Lib.hid (fun W (hW : Fr [] w5 W) => wl_Values W P5 b d5 (HS5.out.step hW).disk.file)
                go_wp2_with (go_at_call 34; (with_reducible refine useC HLG.out ?_); rintro e w6 ⟨rfl, hf⟩; have HF6 := Lib.hid hf; have HEC := Lib.hid (HERR.out w6.drew (HS5.out.fr.trans hf.drew)); clear hf)
                (refine wp_region_mix (Fr [] w6 ·) 21 [(true, 0), (true, 1), (false, 2), (true, 3), (true, 4), (true, 5), (true, 6), (true, 7), (true, 8), (true, 9), (true, 10), (true, 11), (true, 12), (true, 13), (true, 14), (true, 15), (true, 16), (true, 17), (true, 18), (true, 20), (false, 19)] (by kernel_rfl) (by kernel_rfl) ((Fr.refl _ _).drew) ?_; simp only [pickOps, List.map_cons, List.map_nil, List.getD_cons_zero, List.getD_cons_succ, List.drop_succ_cons, List.drop_zero])
                (iterate 2 (first | (refine wpMix_take (v := ?_) (by rfl) ?_ ?_; rotate_left; (focus (intro W hW; skip; go_simp; (try with_reducible rfl); done)); try simp only [Act.put, List.setIfInBounds_toArray, List.set_cons_zero, List.set_cons_succ]) | (refine wpMix_leave (by rfl) ?_; try simp only [Act.put, List.setIfInBounds_toArray, List.set_cons_zero, List.set_cons_succ])))
                refine wpMix_walk ?_
                go_wp2_with (go_at_call 12; (with_reducible refine useC HEC.out ?_); rintro e w7 ⟨rfl, hf⟩; have HF7 : Hid (Fr [] w6 w7) := ((Fr.refl [] w6).drew).trans hf; clear hf)
                refine MixQ.mk (HF7.out) ?_
                (iterate 17 (first | (refine wpMix_take (v := ?_) (by rfl) ?_ ?_; rotate_left; (focus (intro W hW; obtain ⟨⟨y0, y1, y2⟩, -⟩ := (HSX.out W (HF6.out.trans hW)).cells; go_simp; (try with_reducible rfl); done)); try simp only [Act.put, List.setIfInBounds_toArray, List.set_cons_zero, List.set_cons_succ]) | (refine wpMix_leave (by rfl) ?_; try simp only [Act.put, List.setIfInBounds_toArray, List.set_cons_zero, List.set_cons_succ])))
                refine wpMix_walk ?_
                go_wp2_with (go_at_call 35; (with_reducible refine useC (HVD.out w7 (HF6.out.trans HF7.out)) ?_); rintro e w8 ⟨v8, g8, rfl, -, hs, hf⟩; have HF8 : Hid (Fr [] w6 w8) := HF7.out.trans hf; have HC8 := Lib.hid hs; clear hs hf)
                refine MixQ.mk (HF8.out) ?_
                refine wpMix_nil ?_
                go_wp2_with (first
                  | (go_at_call 36; (with_reducible refine useC (HVX.out w8 (HF6.out.trans HF8.out)) ?_); rintro e w9 ⟨v9, g9, rfl, -, hs, hf⟩; have HF9 : Hid (Fr [] w6 w9) := HF8.out.trans hf; have HC9 := Lib.hid hs; have HC8' := Lib.hid (HC8.out.fr hf (by simp)); clear hs hf)
                  | (go_at_call 15; (with_reducible refine useC (ints_same w9 _ _ g8 g9 _ HC8'.out HC9.out) ?_); rintro e w10 ⟨rfl, hdr⟩; have HS10 := Lib.hid (HS5.out.step (HF6.out.trans (HF9.out.trans (hdr.fr [])))); clear hdr))
                go_roundw
                case rel => exact ⟨k + 1, by omega, by omega, by go_num, _, _, _, _, _, _, HS10⟩
                case measure => simp [intOf]; omega
              · have b1 : (((nthR ls k).length : Int) == 1) = false := beq_eq_false_iff_ne.2 (by omega)
                have b2 : (((nthR ls k).length : Int) == 2) = false := beq_eq_false_iff_ne.2 (by omega)
                have b3 : (((nthR ls k).length : Int) == 3) = false := beq_eq_false_iff_ne.2 (by omega)
                have b4 : (((nthR ls k).length : Int) == 4) = false := beq_eq_false_iff_ne.2 (by omega)
                have b5 : (((nthR ls k).length : Int) == 5) = false := beq_eq_false_iff_ne.2 (by omega)
                clear hc' hA'
                obtain ⟨w5, hw5⟩ : ∃ x, x = wr := ⟨_, rfl⟩
                subst hw5
                have HERR := Lib.hid (fun W (hW : Fr [] w W) => error_ok0 W (HE.out W hW))
                obtain ⟨d5, P5, A4, c4, A5, c5, HS5⟩ : ∃ d5 P5 A4 c4 A5 c5, Hid (WxS w w5 P5 b X (.slice A4 8 c4) (.slice A5 d5.log.length c5) d5 d5) := ⟨_, _, _, _, _, _, hS⟩
                clear x0 x1 x2 hfz hS
                have HLG := Lib.hid (wl_Log w5 P5 b d5 HS5.out.disk.file)
                have HSX := Lib.hid (fun W (hW : Fr [] w5 W) => HS5.out.step hW)
                have HVX := Lib.hid (fun W (hW : Fr [] w5 W) => wx_Values W _ _ d5 (HS5.out.step hW).val HS5.out.ok HS5.out.nv (HS5.out.step hW).new)
                have HVD := Lib.hid (fun W (hW : Fr [] w5 W) => wl_Values W P5 b d5 (HS5.out.step hW).disk.file)
                go_wp2_with (go_at_call 34; (with_reducible refine useC HLG.out ?_); rintro e w6 ⟨rfl, hf⟩; have HF6 := Lib.hid hf; have HEC := Lib.hid (HERR.out w6.drew (HS5.out.fr.trans hf.drew)); clear hf)
                (refine wp_region_mix (Fr [] w6 ·) 21 [(true, 0), (true, 1), (false, 2), (true, 3), (true, 4), (true, 5), (true, 6), (true, 7), (true, 8), (true, 9), (true, 10), (true, 11), (true, 12), (true, 13), (true, 14), (true, 15), (true, 16), (true, 17), (true, 18), (true, 20), (false, 19)] (by kernel_rfl) (by kernel_rfl) ((Fr.refl _ _).drew) ?_; simp only [pickOps, List.map_cons, List.map_nil, List.getD_cons_zero, List.getD_cons_succ, List.drop_succ_cons, List.drop_zero])
                (iterate 2 (first | (refine wpMix_take (v := ?_) (by rfl) ?_ ?_; rotate_left; (focus (intro W hW; skip; go_simp; (try with_reducible rfl); done)); try simp only [Act.put, List.setIfInBounds_toArray, List.set_cons_zero, List.set_cons_succ]) | (refine wpMix_leave (by rfl) ?_; try simp only [Act.put, List.setIfInBounds_toArray, List.set_cons_zero, List.set_cons_succ])))
                refine wpMix_walk ?_
                go_wp2_with (go_at_call 12; (with_reducible refine useC HEC.out ?_); rintro e w7 ⟨rfl, hf⟩; have HF7 : Hid (Fr [] w6 w7) := ((Fr.refl [] w6).drew).trans hf; clear hf)
                refine MixQ.mk (HF7.out) ?_
                (iterate 17 (first | (refine wpMix_take (v := ?_) (by rfl) ?_ ?_; rotate_left; (focus (intro W hW; obtain ⟨⟨y0, y1, y2⟩, -⟩ := (HSX.out W (HF6.out.trans hW)).cells; go_simp; (try with_reducible rfl); done)); try simp only [Act.put, List.setIfInBounds_toArray, List.set_cons_zero, List.set_cons_succ]) | (refine wpMix_leave (by rfl) ?_; try simp only [Act.put, List.setIfInBounds_toArray, List.set_cons_zero, List.set_cons_succ])))
                refine wpMix_walk ?_
                go_wp2_with (go_at_call 35; (with_reducible refine useC (HVD.out w7 (HF6.out.trans HF7.out)) ?_); rintro e w8 ⟨v8, g8, rfl, -, hs, hf⟩; have HF8 : Hid (Fr [] w6 w8) := HF7.out.trans hf; have HC8 := Lib.hid hs; clear hs hf)
                refine MixQ.mk (HF8.out) ?_
                refine wpMix_nil ?_
                go_wp2_with (first
                  | (go_at_call 36; (with_reducible refine useC (HVX.out w8 (HF6.out.trans HF8.out)) ?_); rintro e w9 ⟨v9, g9, rfl, -, hs, hf⟩; have HF9 : Hid (Fr [] w6 w9) := HF8.out.trans hf; have HC9 := Lib.hid hs; have HC8' := Lib.hid (HC8.out.fr hf (by simp)); clear hs hf)
                  | (go_at_call 15; (with_reducible refine useC (ints_same w9 _ _ g8 g9 _ HC8'.out HC9.out) ?_); rintro e w10 ⟨rfl, hdr⟩; have HS10 := Lib.hid (HS5.out.step (HF6.out.trans (HF9.out.trans (hdr.fr [])))); clear hdr))
                go_roundw
                case rel => exact ⟨k + 1, by omega, by omega, by go_num, _, _, _, _, _, _, HS10⟩
                case measure => simp [intOf]; omega
    · have hout : ¬ (k : Int) < ls.length ∨ ((k : Int) < ls.length ∧ ¬ (k : Int) < 80) := by omega
      rcases hout with hout | ⟨hout, hout'⟩
      all_goals
        go_wp2
        go_ret
        exact ⟨rfl, hS.out.fr⟩
end Go.Proofs.YtmhmbgkpojgbbaaDoor
