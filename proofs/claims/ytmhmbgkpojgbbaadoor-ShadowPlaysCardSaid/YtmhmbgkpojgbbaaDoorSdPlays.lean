/- ShadowPlays: any disk, and anything that is done with it. Printed by wip/gen_shplays.py. -/
import Derived.Test.YtmhmbgkpojgbbaaDoorSdPlays0
namespace Go.Proofs.YtmhmbgkpojgbbaaDoor
open Go.RowKit

set_option maxRecDepth 100000 in
set_option maxHeartbeats 8000000 in
theorem sd_plays (w : World) (v : Value) (ls : List (List Int)) (hR : Rw w.heap.size w v ls) (hE : ErrType w) :
    Calls Tryd.prog 3 #[v] w (OkT w) := by
  have HE := Lib.hid (fun W (hW : Fr [] w W) => hE.fr hW (by simp))
  obtain ⟨A, g, o, c, rfl, hm, hF⟩ := hR
  have HF := Lib.hid hF
  clear hF hE
  go_enter Tryd.func3, Tryd.ntmps3
  go_wp2_with (first
    | (go_at_call 6; (with_reducible refine useC (sh_new' w) ?_); rintro e w0 ⟨b, rfl, hb, hd, hf⟩; have HD0 := Lib.hid hd; have HB0 := Lib.hid hb; have HF0 := Lib.hid hf; clear hd hb hf)
    | (go_at_call 7; (with_reducible refine useC (sd_New w0) ?_); rintro e w1 ⟨v, rfl, hv, hf⟩; obtain ⟨A1, c1, A2, c2, A3, c3, rfl, hS⟩ := SdS.start HD0.out HB0.out HF0.out hv hf; have HS := Lib.hid hS; clear hv hf hS HD0 HF0))
  revert HS
  generalize w1.alloc (.cells #[.slice A1 16 c1, .slice A2 8 c2, .slice A3 8 c3] 27) = wA
  generalize w1.heap.size = X at *
  intro HS
  clear HB0
  go_loopw [5] (fun i wr => ∃ k : Nat, k ≤ ls.length ∧ k ≤ 60 ∧ i = .int .i64 k ∧ ∃ A1 c1 A2 c2 A3 c3 d, Hid (SdS w wr b X (.slice A1 16 c1) (.slice A2 8 c2) (.slice A3 8 c3) d d)) (fun i _ => 60 - (intOf i).toNat)
  case atStart => exact ⟨0, Nat.zero_le _, Nat.zero_le _, rfl, _, _, _, _, _, _, _, HS⟩
  case round =>
    clear HS
    obtain ⟨k, hk, hk6, rfl, A1, c1, A2, c2, A3, c3, d, hS⟩ := hrel
    by_cases hin : k < ls.length ∧ k < 60
    · obtain ⟨hlt, h60⟩ := hin
      obtain ⟨rfl, hg⟩ := HF.out.1 (by omega)
      obtain ⟨u, kb, hcell0, hkb, hsl, _⟩ := HF.out.2 k hlt
      have hcell := hS.out.fr.cell hcell0 (by simp)
      obtain ⟨A', o', c', rfl, hm', hA', hc'⟩ := hsl.form
      have i0 : (0 : Int) ≤ k := by omega
      have i1 : (k : Int) < ls.length := by omega
      have i6 : (k : Int) < 60 := by omega
      clear hsl hcell0 hkb
      obtain ⟨⟨x0, x1, x2⟩, hfz⟩ := hS.out.cells
      by_cases hl1 : (nthR ls k).length = 1
      · have e1 : ((nthR ls k).length : Int) = 1 := by omega
        rw [hl1] at hcell
        obtain ⟨wA, hwA⟩ : ∃ x, x = wr := ⟨_, rfl⟩
        subst hwA
        obtain ⟨gn, -, hsn⟩ := hS.out.now
        obtain ⟨on, cn, en, -, -, kn⟩ := hsn.form2 (by rw [hS.out.ok.tnow.len]; decide)
        rw [hS.out.ok.tnow.len] at en
        injection en with en elen en2
        clear elen
        subst en en2
        obtain ⟨go', -, hso⟩ := hS.out.old
        obtain ⟨oo, co, eo, -, -, ko⟩ := hso.form2 (by rw [hS.out.ok.told.len]; decide)
        rw [hS.out.ok.told.len] at eo
        injection eo with eo elen eo2
        clear elen
        subst eo eo2
        have HXN := Lib.hid (fun W (hW : Fr [] wA W) i (hi : i < 8) => And.intro (hW.cell (kn i (by rw [hS.out.ok.tnow.len]; exact hi)) (by simp)) (hW.cell (ko i (by rw [hS.out.ok.told.len]; exact hi)) (by simp)))
        have HSX1 := Lib.hid (fun W (hW : Fr [] wA W) => hS.out.step hW)
        have HDS := Lib.hid (fun i (hi : i < 8) => diff_snoc d.now d.old i (by rw [hS.out.ok.tnow.len]; exact hi) (by rw [hS.out.ok.told.len]; exact hi))
        have HDB := Lib.hid (fun i => diff_bd (d.now.take i) (d.old.take i))
        have HTK : Hid (Sh.diff (d.now.take 8) (d.old.take 8) = Sh.diff d.now d.old) := by
          show _ = _
          rw [List.take_of_length_le (by rw [hS.out.ok.tnow.len]; exact Nat.le_refl _), List.take_of_length_le (by rw [hS.out.ok.told.len]; exact Nat.le_refl _)]
        clear hsn hso kn ko hc' hA' hl1
        go_wp2
        go_loopw [7, 8] (fun v i wr => ∃ j : Nat, j ≤ 8 ∧ i = .int .i64 j ∧ v = .int .i64 (Sh.diff (d.now.take j) (d.old.take j)) ∧ Hid (Fr [] wA wr)) (fun _ i _ => 8 - (intOf i).toNat)
        case atStart => exact ⟨0, Nat.zero_le _, rfl, rfl, Fr.refl _ _⟩
        case round =>
          clear x0 x1 x2 hfz hcell
          obtain ⟨j, hj, rfl, rfl, hFF⟩ := hrel
          obtain ⟨⟨x0, x1, x2⟩, hfz⟩ := (HSX1.out wr hFF.out).cells
          by_cases hlt' : j < 8
          · have j1 : (j : Int) < 8 := by omega
            have j0 : (0 : Int) ≤ j := by omega
            obtain ⟨z1, z2⟩ := HXN.out wr hFF.out j hlt'
            have HD1 := Lib.hid (HDS.out j hlt')
            have hb1 := (HDB.out j).1
            have hb2 := (HDB.out j).2
            rw [List.length_take] at hb2
            have hb3 : Sh.diff (d.now.take j) (d.old.take j) ≤ 8 := by omega
            clear hb2
            generalize Sh.diff (d.now.take j) (d.old.take j) = q at *
            by_cases hne : nth d.now j = nth d.old j
            · have HD2 := Lib.hid (HD1.out.trans (by rw [if_pos hne]))
              have bb : (nth d.now j == nth d.old j) = true := by simpa using hne
              clear HD1
              generalize nth d.now j = ya at *
              generalize nth d.old j = yb at *
              subst hne
              go_wp2_with fail
              (refine wp_region_mixq 10 [(true, 0), (true, 1), (true, 2), (true, 3), (true, 4), (true, 5), (true, 6), (true, 7), (true, 8), (true, 9)] (by kernel_rfl) (by kernel_rfl) ?_; simp only [pickOps, List.map_cons, List.map_nil, List.getD_cons_zero, List.getD_cons_succ, List.drop_succ_cons, List.drop_zero]; (iterate 10 (first | (refine wpMix_take (v := ?_) (by rfl) ?_ ?_; rotate_left; (focus (intro W hW; subst hW; go_simp; (try with_reducible rfl); done)); try simp only [Act.put, List.setIfInBounds_toArray, List.set_cons_zero, List.set_cons_succ]) | (refine wpMix_leave (by rfl) ?_; try simp only [Act.put, List.setIfInBounds_toArray, List.set_cons_zero, List.set_cons_succ]))); refine wpMix_nil ?_)
              go_wp2
              go_roundw
              case rel => exact ⟨j + 1, by omega, by go_num, by rw [HD2.out, Int.add_zero], hFF.out.drew⟩
              case measure => simp [intOf]; omega
            · have HD2 := Lib.hid (HD1.out.trans (by rw [if_neg hne]))
              have bb : (nth d.now j == nth d.old j) = false := by simpa using hne
              clear HD1
              generalize nth d.now j = ya at *
              generalize nth d.old j = yb at *
              go_wp2_with fail
              (refine wp_region_mixq 10 [(true, 0), (true, 1), (true, 2), (true, 3), (true, 4), (true, 5), (true, 6), (true, 7), (true, 8), (true, 9)] (by kernel_rfl) (by kernel_rfl) ?_; simp only [pickOps, List.map_cons, List.map_nil, List.getD_cons_zero, List.getD_cons_succ, List.drop_succ_cons, List.drop_zero]; (iterate 10 (first | (refine wpMix_take (v := ?_) (by rfl) ?_ ?_; rotate_left; (focus (intro W hW; subst hW; go_simp; (try with_reducible rfl); done)); try simp only [Act.put, List.setIfInBounds_toArray, List.set_cons_zero, List.set_cons_succ]) | (refine wpMix_leave (by rfl) ?_; try simp only [Act.put, List.setIfInBounds_toArray, List.set_cons_zero, List.set_cons_succ]))); refine wpMix_nil ?_)
              go_wp2
              go_roundw
              case rel => exact ⟨j + 1, by omega, by go_num, by rw [HD2.out], hFF.out.drew⟩
              case measure => simp [intOf]; omega
          · have hje : j = 8 := by omega
            have j1 : ¬ (j : Int) < 8 := by omega
            rw [hje, HTK.out]
            have HS3 := Lib.hid ((HSX1.out wr hFF.out).fin_)
            have HDF := Lib.hid (sh_end _ b d HS3.out.disk HS3.out.ok.slots HS3.out.ok.told.len HS3.out.ok.tnow.len)
            clear hje j1 hlt' hj
            generalize Sh.diff d.now d.old = q at *
            go_wp2_with (go_at_call 8; (with_reducible refine useC HDF.out ?_); rintro e w5 ⟨rfl, hd5, hf5⟩; have HS5 := Lib.hid (HS3.out.turn hd5 hf5 (Sh.fin_ok HS3.out.ok)); clear hd5 hf5)
            obtain ⟨d5, A4, c4, A5, c5, A6, c6, HS5⟩ : ∃ d5 A4 c4 A5 c5 A6 c6, Hid (SdS w w5 b X (.slice A4 16 c4) (.slice A5 8 c5) (.slice A6 8 c6) d5 d5) := ⟨_, _, _, _, _, _, _, HS5⟩
            clear HS3 HDF HSX1 HXN HDS HDB HTK hS x0 x1 x2 hfz hFF
            have HVS := Lib.hid (sh_Values w5 b d5 HS5.out.disk HS5.out.ok.slots HS5.out.ok.shT_old HS5.out.ok.shT_now)
            have HSX := Lib.hid (fun W (hW : Fr [] w5 W) => HS5.out.step hW)
            have HVN := Lib.hid (fun W (hW : Fr [] w5 W) => (by
              obtain ⟨g3, -, h3⟩ := (HS5.out.step hW).now
              exact sd_Values W _ _ _ g3 d5 d5.now (HS5.out.step hW).val HS5.out.ok.slots h3 HS5.out.ok.tnow.len HS5.out.ok.tnow.hi :
                Calls Tryd.prog 16 #[.agg #[.slice A4 16 c4, .slice A5 8 c5, .slice A6 8 c6], .slice A6 8 c6] W (NewRow (Sh.vals d5.slot d5.now) W)))
            have HVO := Lib.hid (fun W (hW : Fr [] w5 W) => (by
              obtain ⟨g2, -, h2⟩ := (HS5.out.step hW).old
              exact sd_Values W _ _ _ g2 d5 d5.old (HS5.out.step hW).val HS5.out.ok.slots h2 HS5.out.ok.told.len HS5.out.ok.told.hi :
                Calls Tryd.prog 16 #[.agg #[.slice A4 16 c4, .slice A5 8 c5, .slice A6 8 c6], .slice A5 8 c5] W (NewRow (Sh.vals d5.slot d5.old) W)))
            have HSL := Lib.hid (fun W (hW : Fr [] w5 W) => sh_slots W b d5 (HS5.out.step hW).disk HS5.out.ok.slots HS5.out.ok.told.len HS5.out.ok.tnow.len)
            have HNW := Lib.hid (fun W (hW : Fr [] w5 W) => (HS5.out.step hW).now)
            go_wp2_with (go_at_call 14; (with_reducible refine useC HVS.out ?_); rintro e w6 ⟨va, vb, ga, gb, rfl, -, -, hs1, hs2, hf⟩; have HF6 := Lib.hid hf; have HA := Lib.hid (fun W (hW : Fr [] w6 W) => hs1.fr hW (by simp)); have HB := Lib.hid (fun W (hW : Fr [] w6 W) => hs2.fr hW (by simp)); clear hs1 hs2 hf)
            (refine wp_region_mix (Fr [] w6 ·) 21 [(true, 0), (true, 1), (true, 2), (true, 3), (false, 4), (false, 5), (true, 6), (true, 7), (true, 8), (true, 9), (true, 10), (true, 11), (false, 12), (false, 13), (true, 14), (true, 15), (true, 16), (true, 17), (true, 19), (true, 20), (false, 18)] (by kernel_rfl) (by kernel_rfl) ((Fr.refl _ _).drew) ?_; simp only [pickOps, List.map_cons, List.map_nil, List.getD_cons_zero, List.getD_cons_succ, List.drop_succ_cons, List.drop_zero])
            (iterate 4 (first | (refine wpMix_take (v := ?_) (by rfl) ?_ ?_; rotate_left; (focus (intro W hW; obtain ⟨⟨y0, y1, y2⟩, -⟩ := (HSX.out W (HF6.out.trans hW)).cells; go_simp; (try with_reducible rfl); done)); try simp only [Act.put, List.setIfInBounds_toArray, List.set_cons_zero, List.set_cons_succ]) | (refine wpMix_leave (by rfl) ?_; try simp only [Act.put, List.setIfInBounds_toArray, List.set_cons_zero, List.set_cons_succ])))
            refine wpMix_walk ?_
            go_wp2_with (go_at_call 16; (with_reducible refine useC (HVN.out w6.drew (HF6.out.drew)) ?_); rintro e w7 ⟨v7, g7, rfl, -, hs, hf⟩; have HF7 : Hid (Fr [] w6 w7) := ((Fr.refl [] w6).drew).trans hf; have HC7 := Lib.hid hs; clear hs hf)
            refine MixQ.mk (HF7.out) ?_
            refine wpMix_walk ?_
            go_wp2_with (go_at_call 15; (with_reducible refine useC (ints_same w7 _ _ ga g7 _ (HA.out w7 HF7.out) HC7.out) ?_); rintro e w8 ⟨rfl, hdr⟩; have HF8 := Lib.hid (HF7.out.trans (hdr.fr [])); clear hdr)
            refine MixQ.mk (HF8.out) ?_
            (iterate 6 (first | (refine wpMix_take (v := ?_) (by rfl) ?_ ?_; rotate_left; (focus (intro W hW; obtain ⟨⟨y0, y1, y2⟩, -⟩ := (HSX.out W (HF6.out.trans hW)).cells; go_simp; (try with_reducible rfl); done)); try simp only [Act.put, List.setIfInBounds_toArray, List.set_cons_zero, List.set_cons_succ]) | (refine wpMix_leave (by rfl) ?_; try simp only [Act.put, List.setIfInBounds_toArray, List.set_cons_zero, List.set_cons_succ])))
            refine wpMix_walk ?_
            go_wp2_with (go_at_call 16; (with_reducible refine useC (HVO.out w8 (HF6.out.trans HF8.out)) ?_); rintro e w9 ⟨v9, g9, rfl, -, hs, hf⟩; have HF9 : Hid (Fr [] w6 w9) := HF8.out.trans hf; have HC9 := Lib.hid hs; clear hs hf)
            refine MixQ.mk (HF9.out) ?_
            refine wpMix_walk ?_
            go_wp2_with (go_at_call 15; (with_reducible refine useC (ints_same w9 _ _ gb g9 _ (HB.out w9 HF9.out) HC9.out) ?_); rintro e w10 ⟨rfl, hdr⟩; have HF10 := Lib.hid (HF9.out.trans (hdr.fr [])); clear hdr)
            refine MixQ.mk (HF10.out) ?_
            (iterate 6 (first | (refine wpMix_take (v := ?_) (by rfl) ?_ ?_; rotate_left; (focus (intro W hW; obtain ⟨⟨y0, y1, y2⟩, -⟩ := (HSX.out W (HF6.out.trans hW)).cells; go_simp; (try with_reducible rfl); done)); try simp only [Act.put, List.setIfInBounds_toArray, List.set_cons_zero, List.set_cons_succ]) | (refine wpMix_leave (by rfl) ?_; try simp only [Act.put, List.setIfInBounds_toArray, List.set_cons_zero, List.set_cons_succ])))
            refine wpMix_walk ?_
            go_wp2_with (go_at_call 17; (with_reducible refine useC (HSL.out w10 (HF6.out.trans HF10.out)) ?_); rintro e w11 ⟨v11, g11, rfl, -, hs, hf⟩; have HF11 : Hid (Fr [] w6 w11) := HF10.out.trans hf; have HC11 := Lib.hid hs; clear hs hf)
            refine MixQ.mk (HF11.out) ?_
            refine wpMix_nil ?_
            obtain ⟨gn, -, hsn⟩ := HNW.out w11 (HF6.out.trans HF11.out)
            have HCN := Lib.hid hsn
            clear hsn
            go_wp2_with (go_at_call 15; (with_reducible refine useC (ints_same w11 _ _ g11 gn _ HC11.out HCN.out) ?_); rintro e w12 ⟨rfl, hdr⟩; have HS12 := Lib.hid (HS5.out.step (HF6.out.trans (HF11.out.trans (hdr.fr [])))); clear hdr)
            go_roundw
            case rel => exact ⟨k + 1, by omega, by omega, by go_num, _, _, _, _, _, _, _, HS12⟩
            case measure => simp [intOf]; omega
      · by_cases hl2 : (nthR ls k).length = 2
        · obtain rfl := hA' (by omega)
          have b1 : (((nthR ls k).length : Int) == 1) = false := beq_eq_false_iff_ne.2 (by omega)
          have c0 := hc' 0 (by omega)
          have c1' := hc' 1 (by omega)
          rw [Nat.add_zero] at c0
          have HC0 := Lib.hid (fun W (hW : Fr [] w W) => And.intro (hW.cell c0 (by simp)) (hW.cell c1' (by simp)))
          have c0 := (HC0.out wr hS.out.fr).1
          have c1' := (HC0.out wr hS.out.fr).2
          rw [hl2] at hcell b1
          clear hc' hA' hl1 hl2
          generalize nth (nthR ls k) 0 = y0 at *
          generalize nth (nthR ls k) 1 = y1 at *
          have HSD := Lib.hid (hS.out.step (Fr.refl [] wr).drew)
          by_cases h1 : 0 ≤ y0 ∧ y0 ≤ 7
          · have e1 := decide_eq_true h1
            by_cases h2 : 0 ≤ y1 ∧ y1 ≤ 1000
            · have e2 := decide_eq_true h2
              have hok : Sh.okP y0 y1 := ⟨h1, h2⟩
              obtain ⟨p, rfl⟩ : ∃ p : Nat, y0 = p := ⟨y0.toNat, by omega⟩
              have hp8 : p < 8 := by omega
              have HAN : Hid (shAns d p y1 = .tuple #[.int .i64 (nth (Sh.now1 d p) p), .nilIface]) := by
                show _ = _
                unfold shAns
                rw [if_pos hok, Int.toNat_natCast]
              have HWD : Hid (Sh.write d p y1 = Sh.put d p y1) := by
                show _ = _
                unfold Sh.write
                rw [if_pos hok, Int.toNat_natCast]
              have HOP := Lib.hid (Sh.put_ok hS.out.ok hp8 y1)
              have HCX := Lib.hid (sd_Write wr.drew _ _ d p y1 HSD.out.val HSD.out.okx HSD.out.new hp8)
              clear h1 h2 hok
              generalize nth (Sh.now1 d p) p = q at *
              go_wp2_with (first
                | (go_at_call 9; (with_reducible refine useC (in3_is p _ _ true _ e1) ?_); rintro e wr ⟨rfl, rfl⟩)
                | (go_at_call 9; (with_reducible refine useC (in3_is y1 _ _ true _ e2) ?_); rintro e wr ⟨rfl, rfl⟩))
              (refine wp_region_mix (Fr [] w ·) 12 [(true, 1), (true, 2), (true, 3), (true, 4), (true, 5), (true, 6), (false, 0), (false, 7), (true, 8), (true, 9), (true, 10), (false, 11)] (by kernel_rfl) (by kernel_rfl) (hS.out.fr.drew) ?_; simp only [pickOps, List.map_cons, List.map_nil, List.getD_cons_zero, List.getD_cons_succ, List.drop_succ_cons, List.drop_zero])
              (iterate 6 (first | (refine wpMix_take (v := ?_) (by rfl) ?_ ?_; rotate_left; (focus (intro W hW; obtain ⟨c0, c1'⟩ := HC0.out W hW; go_simp; (try with_reducible rfl); done)); try simp only [Act.put, List.setIfInBounds_toArray, List.set_cons_zero, List.set_cons_succ]) | (refine wpMix_leave (by rfl) ?_; try simp only [Act.put, List.setIfInBounds_toArray, List.set_cons_zero, List.set_cons_succ])))
              refine wpMix_walk ?_
              go_wp2
              refine MixQ.mk (HSD.out.fr) ?_
              refine wpMix_walk ?_
              go_wp2_with (go_at_call 10; (with_reducible refine useC HCX.out ?_); rintro e w2 ⟨v2, rfl, hv2, hf2⟩; obtain ⟨A4, c4, A5, c5, A6, c6, rfl⟩ := hv2.form HOP.out; have HS2 := Lib.hid (HSD.out.step hf2); have HS3 := Lib.hid (HSD.out.put hf2 hv2 HOP.out); clear hv2 hf2)
              refine MixQ.mk (HS2.out.fr) ?_
              (iterate 3 (first | (refine wpMix_take (v := ?_) (by rfl) ?_ ?_; rotate_left; (focus (intro W hW; skip; go_simp; (try with_reducible rfl); done)); try simp only [Act.put, List.setIfInBounds_toArray, List.set_cons_zero, List.set_cons_succ]) | (refine wpMix_leave (by rfl) ?_; try simp only [Act.put, List.setIfInBounds_toArray, List.set_cons_zero, List.set_cons_succ])))
              refine wpMix_walk ?_
              clear x0 x1 x2 hfz
              obtain ⟨⟨x0, x1, x2⟩, hfz⟩ := HS2.out.cells
              go_wp2
              refine MixQ.mk (HS3.out.fr) ?_
              refine wpMix_nil ?_
              clear x0 x1 x2 hfz HCX HS2 HSD c0 c1' hcell hS
              generalize ((w2.setCell ⟨X, 0, none⟩ (.slice A4 16 c4)).setCell ⟨X, 1, none⟩ (.slice A5 8 c5)).setCell ⟨X, 2, none⟩ (.slice A6 8 c6) = w3 at *
              have HS3d := Lib.hid (HS3.out.step (Fr.refl [] w3).drew)
              have HDF := Lib.hid (sh_write w3.drew b d p y1 HS3d.out.disk HS3d.out.ok)
              rw [HAN.out, HWD.out] at HDF
              go_wp2_with fail
              (refine wp_region_mix (Fr [] w ·) 12 [(true, 0), (true, 1), (true, 2), (true, 3), (true, 4), (true, 5), (true, 6), (false, 7), (true, 8), (true, 9), (true, 10), (false, 11)] (by kernel_rfl) (by kernel_rfl) (HS3d.out.fr) ?_; simp only [pickOps, List.map_cons, List.map_nil, List.getD_cons_zero, List.getD_cons_succ, List.drop_succ_cons, List.drop_zero])
              (iterate 7 (first | (refine wpMix_take (v := ?_) (by rfl) ?_ ?_; rotate_left; (focus (intro W hW; obtain ⟨c0, c1'⟩ := HC0.out W hW; go_simp; (try with_reducible rfl); done)); try simp only [Act.put, List.setIfInBounds_toArray, List.set_cons_zero, List.set_cons_succ]) | (refine wpMix_leave (by rfl) ?_; try simp only [Act.put, List.setIfInBounds_toArray, List.set_cons_zero, List.set_cons_succ])))
              refine wpMix_walk ?_
              go_wp2_with (go_at_call 11; (with_reducible refine useC HDF.out ?_); rintro e w4 ⟨rfl, hd4, hf4⟩; have HS4 := Lib.hid (HS3d.out.turn hd4 hf4 HOP.out); clear hd4 hf4)
              refine MixQ.mk (HS4.out.fr) ?_
              (iterate 3 (first | (refine wpMix_take (v := ?_) (by rfl) ?_ ?_; rotate_left; (focus (intro W hW; skip; go_simp; (try with_reducible rfl); done)); try simp only [Act.put, List.setIfInBounds_toArray, List.set_cons_zero, List.set_cons_succ]) | (refine wpMix_leave (by rfl) ?_; try simp only [Act.put, List.setIfInBounds_toArray, List.set_cons_zero, List.set_cons_succ])))
              refine wpMix_walk ?_
              go_wp2
              refine MixQ.mk (HS4.out.fr) ?_
              refine wpMix_nil ?_
              go_wp2_with (go_at_call 12; (with_reducible refine useC (error_nil w4 (HE.out w4 HS4.out.fr)) ?_); rintro e w5 ⟨rfl, hf⟩; have HS5 := Lib.hid (HS4.out.step hf); clear hf)
              obtain ⟨d5, HS5⟩ : ∃ d5, Hid (SdS w w5 b X (.slice A4 16 c4) (.slice A5 8 c5) (.slice A6 8 c6) d5 d5) := ⟨_, HS5⟩
              clear HS3 HS3d HS4 HDF HOP HWD HAN HC0 e1 e2
              have HVS := Lib.hid (sh_Values w5 b d5 HS5.out.disk HS5.out.ok.slots HS5.out.ok.shT_old HS5.out.ok.shT_now)
              have HSX := Lib.hid (fun W (hW : Fr [] w5 W) => HS5.out.step hW)
              have HVN := Lib.hid (fun W (hW : Fr [] w5 W) => (by
                obtain ⟨g3, -, h3⟩ := (HS5.out.step hW).now
                exact sd_Values W _ _ _ g3 d5 d5.now (HS5.out.step hW).val HS5.out.ok.slots h3 HS5.out.ok.tnow.len HS5.out.ok.tnow.hi :
                  Calls Tryd.prog 16 #[.agg #[.slice A4 16 c4, .slice A5 8 c5, .slice A6 8 c6], .slice A6 8 c6] W (NewRow (Sh.vals d5.slot d5.now) W)))
              have HVO := Lib.hid (fun W (hW : Fr [] w5 W) => (by
                obtain ⟨g2, -, h2⟩ := (HS5.out.step hW).old
                exact sd_Values W _ _ _ g2 d5 d5.old (HS5.out.step hW).val HS5.out.ok.slots h2 HS5.out.ok.told.len HS5.out.ok.told.hi :
                  Calls Tryd.prog 16 #[.agg #[.slice A4 16 c4, .slice A5 8 c5, .slice A6 8 c6], .slice A5 8 c5] W (NewRow (Sh.vals d5.slot d5.old) W)))
              have HSL := Lib.hid (fun W (hW : Fr [] w5 W) => sh_slots W b d5 (HS5.out.step hW).disk HS5.out.ok.slots HS5.out.ok.told.len HS5.out.ok.tnow.len)
              have HNW := Lib.hid (fun W (hW : Fr [] w5 W) => (HS5.out.step hW).now)
              go_wp2_with (go_at_call 14; (with_reducible refine useC HVS.out ?_); rintro e w6 ⟨va, vb, ga, gb, rfl, -, -, hs1, hs2, hf⟩; have HF6 := Lib.hid hf; have HA := Lib.hid (fun W (hW : Fr [] w6 W) => hs1.fr hW (by simp)); have HB := Lib.hid (fun W (hW : Fr [] w6 W) => hs2.fr hW (by simp)); clear hs1 hs2 hf)
              (refine wp_region_mix (Fr [] w6 ·) 21 [(true, 0), (true, 1), (true, 2), (true, 3), (false, 4), (false, 5), (true, 6), (true, 7), (true, 8), (true, 9), (true, 10), (true, 11), (false, 12), (false, 13), (true, 14), (true, 15), (true, 16), (true, 17), (true, 19), (true, 20), (false, 18)] (by kernel_rfl) (by kernel_rfl) ((Fr.refl _ _).drew) ?_; simp only [pickOps, List.map_cons, List.map_nil, List.getD_cons_zero, List.getD_cons_succ, List.drop_succ_cons, List.drop_zero])
              (iterate 4 (first | (refine wpMix_take (v := ?_) (by rfl) ?_ ?_; rotate_left; (focus (intro W hW; obtain ⟨⟨y0, y1, y2⟩, -⟩ := (HSX.out W (HF6.out.trans hW)).cells; go_simp; (try with_reducible rfl); done)); try simp only [Act.put, List.setIfInBounds_toArray, List.set_cons_zero, List.set_cons_succ]) | (refine wpMix_leave (by rfl) ?_; try simp only [Act.put, List.setIfInBounds_toArray, List.set_cons_zero, List.set_cons_succ])))
              refine wpMix_walk ?_
              go_wp2_with (go_at_call 16; (with_reducible refine useC (HVN.out w6.drew (HF6.out.drew)) ?_); rintro e w7 ⟨v7, g7, rfl, -, hs, hf⟩; have HF7 : Hid (Fr [] w6 w7) := ((Fr.refl [] w6).drew).trans hf; have HC7 := Lib.hid hs; clear hs hf)
              refine MixQ.mk (HF7.out) ?_
              refine wpMix_walk ?_
              go_wp2_with (go_at_call 15; (with_reducible refine useC (ints_same w7 _ _ ga g7 _ (HA.out w7 HF7.out) HC7.out) ?_); rintro e w8 ⟨rfl, hdr⟩; have HF8 := Lib.hid (HF7.out.trans (hdr.fr [])); clear hdr)
              refine MixQ.mk (HF8.out) ?_
              (iterate 6 (first | (refine wpMix_take (v := ?_) (by rfl) ?_ ?_; rotate_left; (focus (intro W hW; obtain ⟨⟨y0, y1, y2⟩, -⟩ := (HSX.out W (HF6.out.trans hW)).cells; go_simp; (try with_reducible rfl); done)); try simp only [Act.put, List.setIfInBounds_toArray, List.set_cons_zero, List.set_cons_succ]) | (refine wpMix_leave (by rfl) ?_; try simp only [Act.put, List.setIfInBounds_toArray, List.set_cons_zero, List.set_cons_succ])))
              refine wpMix_walk ?_
              go_wp2_with (go_at_call 16; (with_reducible refine useC (HVO.out w8 (HF6.out.trans HF8.out)) ?_); rintro e w9 ⟨v9, g9, rfl, -, hs, hf⟩; have HF9 : Hid (Fr [] w6 w9) := HF8.out.trans hf; have HC9 := Lib.hid hs; clear hs hf)
              refine MixQ.mk (HF9.out) ?_
              refine wpMix_walk ?_
              go_wp2_with (go_at_call 15; (with_reducible refine useC (ints_same w9 _ _ gb g9 _ (HB.out w9 HF9.out) HC9.out) ?_); rintro e w10 ⟨rfl, hdr⟩; have HF10 := Lib.hid (HF9.out.trans (hdr.fr [])); clear hdr)
              refine MixQ.mk (HF10.out) ?_
              (iterate 6 (first | (refine wpMix_take (v := ?_) (by rfl) ?_ ?_; rotate_left; (focus (intro W hW; obtain ⟨⟨y0, y1, y2⟩, -⟩ := (HSX.out W (HF6.out.trans hW)).cells; go_simp; (try with_reducible rfl); done)); try simp only [Act.put, List.setIfInBounds_toArray, List.set_cons_zero, List.set_cons_succ]) | (refine wpMix_leave (by rfl) ?_; try simp only [Act.put, List.setIfInBounds_toArray, List.set_cons_zero, List.set_cons_succ])))
              refine wpMix_walk ?_
              go_wp2_with (go_at_call 17; (with_reducible refine useC (HSL.out w10 (HF6.out.trans HF10.out)) ?_); rintro e w11 ⟨v11, g11, rfl, -, hs, hf⟩; have HF11 : Hid (Fr [] w6 w11) := HF10.out.trans hf; have HC11 := Lib.hid hs; clear hs hf)
              refine MixQ.mk (HF11.out) ?_
              refine wpMix_nil ?_
              obtain ⟨gn, -, hsn⟩ := HNW.out w11 (HF6.out.trans HF11.out)
              have HCN := Lib.hid hsn
              clear hsn
              go_wp2_with (go_at_call 15; (with_reducible refine useC (ints_same w11 _ _ g11 gn _ HC11.out HCN.out) ?_); rintro e w12 ⟨rfl, hdr⟩; have HS12 := Lib.hid (HS5.out.step (HF6.out.trans (HF11.out.trans (hdr.fr [])))); clear hdr)
              go_roundw
              case rel => exact ⟨k + 1, by omega, by omega, by go_num, _, _, _, _, _, _, _, HS12⟩
              case measure => simp [intOf]; omega
            · have e2 := decide_eq_false h2
              have hok : ¬ Sh.okP y0 y1 := fun h => h2 h.2
              have HAN : Hid (shAns d y0 y1 = shErr 1) := if_neg hok
              have HWD : Hid (Sh.write d y0 y1 = d) := if_neg hok
              have HDF := Lib.hid (sh_write wr.drew b d y0 y1 HSD.out.disk HSD.out.ok)
              rw [HAN.out, HWD.out] at HDF
              unfold shErr at HDF
              clear hok HAN HWD
              go_wp2_with (first
                | (go_at_call 9; (with_reducible refine useC (in3_is y0 _ _ true _ e1) ?_); rintro e wr ⟨rfl, rfl⟩)
                | (go_at_call 9; (with_reducible refine useC (in3_is y1 _ _ false _ e2) ?_); rintro e wr ⟨rfl, rfl⟩))
              (refine wp_region_mix (Fr [] w ·) 12 [(true, 0), (true, 1), (true, 2), (true, 3), (true, 4), (true, 5), (true, 6), (false, 7), (true, 8), (true, 9), (true, 10), (false, 11)] (by kernel_rfl) (by kernel_rfl) (HSD.out.fr) ?_; simp only [pickOps, List.map_cons, List.map_nil, List.getD_cons_zero, List.getD_cons_succ, List.drop_succ_cons, List.drop_zero])
              (iterate 7 (first | (refine wpMix_take (v := ?_) (by rfl) ?_ ?_; rotate_left; (focus (intro W hW; obtain ⟨c0, c1'⟩ := HC0.out W hW; go_simp; (try with_reducible rfl); done)); try simp only [Act.put, List.setIfInBounds_toArray, List.set_cons_zero, List.set_cons_succ]) | (refine wpMix_leave (by rfl) ?_; try simp only [Act.put, List.setIfInBounds_toArray, List.set_cons_zero, List.set_cons_succ])))
              refine wpMix_walk ?_
              go_wp2_with (go_at_call 11; (with_reducible refine useC HDF.out ?_); rintro e w4 ⟨rfl, hd4, hf4⟩; have HS4 := Lib.hid (HSD.out.turn hd4 hf4 HSD.out.ok); clear hd4 hf4)
              refine MixQ.mk (HS4.out.fr) ?_
              (iterate 3 (first | (refine wpMix_take (v := ?_) (by rfl) ?_ ?_; rotate_left; (focus (intro W hW; skip; go_simp; (try with_reducible rfl); done)); try simp only [Act.put, List.setIfInBounds_toArray, List.set_cons_zero, List.set_cons_succ]) | (refine wpMix_leave (by rfl) ?_; try simp only [Act.put, List.setIfInBounds_toArray, List.set_cons_zero, List.set_cons_succ])))
              refine wpMix_walk ?_
              go_wp2
              refine MixQ.mk (HS4.out.fr) ?_
              refine wpMix_nil ?_
              go_wp2_with (go_at_call 12; (with_reducible refine useC (error_one w4 (HE.out w4 HS4.out.fr)) ?_); rintro e w5 ⟨rfl, hf⟩; have HS5 := Lib.hid (HS4.out.step hf); clear hf)
              obtain ⟨d5, A4, c4, A5, c5, A6, c6, HS5⟩ : ∃ d5 A4 c4 A5 c5 A6 c6, Hid (SdS w w5 b X (.slice A4 16 c4) (.slice A5 8 c5) (.slice A6 8 c6) d5 d5) := ⟨_, _, _, _, _, _, _, HS5⟩
              clear HS4 HSD HDF HC0 e1 x0 x1 x2 hfz c0 c1' hcell hS
              have HVS := Lib.hid (sh_Values w5 b d5 HS5.out.disk HS5.out.ok.slots HS5.out.ok.shT_old HS5.out.ok.shT_now)
              have HSX := Lib.hid (fun W (hW : Fr [] w5 W) => HS5.out.step hW)
              have HVN := Lib.hid (fun W (hW : Fr [] w5 W) => (by
                obtain ⟨g3, -, h3⟩ := (HS5.out.step hW).now
                exact sd_Values W _ _ _ g3 d5 d5.now (HS5.out.step hW).val HS5.out.ok.slots h3 HS5.out.ok.tnow.len HS5.out.ok.tnow.hi :
                  Calls Tryd.prog 16 #[.agg #[.slice A4 16 c4, .slice A5 8 c5, .slice A6 8 c6], .slice A6 8 c6] W (NewRow (Sh.vals d5.slot d5.now) W)))
              have HVO := Lib.hid (fun W (hW : Fr [] w5 W) => (by
                obtain ⟨g2, -, h2⟩ := (HS5.out.step hW).old
                exact sd_Values W _ _ _ g2 d5 d5.old (HS5.out.step hW).val HS5.out.ok.slots h2 HS5.out.ok.told.len HS5.out.ok.told.hi :
                  Calls Tryd.prog 16 #[.agg #[.slice A4 16 c4, .slice A5 8 c5, .slice A6 8 c6], .slice A5 8 c5] W (NewRow (Sh.vals d5.slot d5.old) W)))
              have HSL := Lib.hid (fun W (hW : Fr [] w5 W) => sh_slots W b d5 (HS5.out.step hW).disk HS5.out.ok.slots HS5.out.ok.told.len HS5.out.ok.tnow.len)
              have HNW := Lib.hid (fun W (hW : Fr [] w5 W) => (HS5.out.step hW).now)
              go_wp2_with (go_at_call 14; (with_reducible refine useC HVS.out ?_); rintro e w6 ⟨va, vb, ga, gb, rfl, -, -, hs1, hs2, hf⟩; have HF6 := Lib.hid hf; have HA := Lib.hid (fun W (hW : Fr [] w6 W) => hs1.fr hW (by simp)); have HB := Lib.hid (fun W (hW : Fr [] w6 W) => hs2.fr hW (by simp)); clear hs1 hs2 hf)
              (refine wp_region_mix (Fr [] w6 ·) 21 [(true, 0), (true, 1), (true, 2), (true, 3), (false, 4), (false, 5), (true, 6), (true, 7), (true, 8), (true, 9), (true, 10), (true, 11), (false, 12), (false, 13), (true, 14), (true, 15), (true, 16), (true, 17), (true, 19), (true, 20), (false, 18)] (by kernel_rfl) (by kernel_rfl) ((Fr.refl _ _).drew) ?_; simp only [pickOps, List.map_cons, List.map_nil, List.getD_cons_zero, List.getD_cons_succ, List.drop_succ_cons, List.drop_zero])
              (iterate 4 (first | (refine wpMix_take (v := ?_) (by rfl) ?_ ?_; rotate_left; (focus (intro W hW; obtain ⟨⟨y0, y1, y2⟩, -⟩ := (HSX.out W (HF6.out.trans hW)).cells; go_simp; (try with_reducible rfl); done)); try simp only [Act.put, List.setIfInBounds_toArray, List.set_cons_zero, List.set_cons_succ]) | (refine wpMix_leave (by rfl) ?_; try simp only [Act.put, List.setIfInBounds_toArray, List.set_cons_zero, List.set_cons_succ])))
              refine wpMix_walk ?_
              go_wp2_with (go_at_call 16; (with_reducible refine useC (HVN.out w6.drew (HF6.out.drew)) ?_); rintro e w7 ⟨v7, g7, rfl, -, hs, hf⟩; have HF7 : Hid (Fr [] w6 w7) := ((Fr.refl [] w6).drew).trans hf; have HC7 := Lib.hid hs; clear hs hf)
              refine MixQ.mk (HF7.out) ?_
              refine wpMix_walk ?_
              go_wp2_with (go_at_call 15; (with_reducible refine useC (ints_same w7 _ _ ga g7 _ (HA.out w7 HF7.out) HC7.out) ?_); rintro e w8 ⟨rfl, hdr⟩; have HF8 := Lib.hid (HF7.out.trans (hdr.fr [])); clear hdr)
              refine MixQ.mk (HF8.out) ?_
              (iterate 6 (first | (refine wpMix_take (v := ?_) (by rfl) ?_ ?_; rotate_left; (focus (intro W hW; obtain ⟨⟨y0, y1, y2⟩, -⟩ := (HSX.out W (HF6.out.trans hW)).cells; go_simp; (try with_reducible rfl); done)); try simp only [Act.put, List.setIfInBounds_toArray, List.set_cons_zero, List.set_cons_succ]) | (refine wpMix_leave (by rfl) ?_; try simp only [Act.put, List.setIfInBounds_toArray, List.set_cons_zero, List.set_cons_succ])))
              refine wpMix_walk ?_
              go_wp2_with (go_at_call 16; (with_reducible refine useC (HVO.out w8 (HF6.out.trans HF8.out)) ?_); rintro e w9 ⟨v9, g9, rfl, -, hs, hf⟩; have HF9 : Hid (Fr [] w6 w9) := HF8.out.trans hf; have HC9 := Lib.hid hs; clear hs hf)
              refine MixQ.mk (HF9.out) ?_
              refine wpMix_walk ?_
              go_wp2_with (go_at_call 15; (with_reducible refine useC (ints_same w9 _ _ gb g9 _ (HB.out w9 HF9.out) HC9.out) ?_); rintro e w10 ⟨rfl, hdr⟩; have HF10 := Lib.hid (HF9.out.trans (hdr.fr [])); clear hdr)
              refine MixQ.mk (HF10.out) ?_
              (iterate 6 (first | (refine wpMix_take (v := ?_) (by rfl) ?_ ?_; rotate_left; (focus (intro W hW; obtain ⟨⟨y0, y1, y2⟩, -⟩ := (HSX.out W (HF6.out.trans hW)).cells; go_simp; (try with_reducible rfl); done)); try simp only [Act.put, List.setIfInBounds_toArray, List.set_cons_zero, List.set_cons_succ]) | (refine wpMix_leave (by rfl) ?_; try simp only [Act.put, List.setIfInBounds_toArray, List.set_cons_zero, List.set_cons_succ])))
              refine wpMix_walk ?_
              go_wp2_with (go_at_call 17; (with_reducible refine useC (HSL.out w10 (HF6.out.trans HF10.out)) ?_); rintro e w11 ⟨v11, g11, rfl, -, hs, hf⟩; have HF11 : Hid (Fr [] w6 w11) := HF10.out.trans hf; have HC11 := Lib.hid hs; clear hs hf)
              refine MixQ.mk (HF11.out) ?_
              refine wpMix_nil ?_
              obtain ⟨gn, -, hsn⟩ := HNW.out w11 (HF6.out.trans HF11.out)
              have HCN := Lib.hid hsn
              clear hsn
              go_wp2_with (go_at_call 15; (with_reducible refine useC (ints_same w11 _ _ g11 gn _ HC11.out HCN.out) ?_); rintro e w12 ⟨rfl, hdr⟩; have HS12 := Lib.hid (HS5.out.step (HF6.out.trans (HF11.out.trans (hdr.fr [])))); clear hdr)
              go_roundw
              case rel => exact ⟨k + 1, by omega, by omega, by go_num, _, _, _, _, _, _, _, HS12⟩
              case measure => simp [intOf]; omega
          · have e1 := decide_eq_false h1
            have hok : ¬ Sh.okP y0 y1 := fun h => h1 h.1
            clear h1
            have HAN : Hid (shAns d y0 y1 = shErr 1) := if_neg hok
            have HWD : Hid (Sh.write d y0 y1 = d) := if_neg hok
            have HDF := Lib.hid (sh_write wr.drew b d y0 y1 HSD.out.disk HSD.out.ok)
            rw [HAN.out, HWD.out] at HDF
            unfold shErr at HDF
            clear hok HAN HWD
            go_wp2_with (go_at_call 9; (with_reducible refine useC (in3_is y0 _ _ false _ e1) ?_); rintro e wr ⟨rfl, rfl⟩)
            (refine wp_region_mix (Fr [] w ·) 12 [(true, 0), (true, 1), (true, 2), (true, 3), (true, 4), (true, 5), (true, 6), (false, 7), (true, 8), (true, 9), (true, 10), (false, 11)] (by kernel_rfl) (by kernel_rfl) (HSD.out.fr) ?_; simp only [pickOps, List.map_cons, List.map_nil, List.getD_cons_zero, List.getD_cons_succ, List.drop_succ_cons, List.drop_zero])
            (iterate 7 (first | (refine wpMix_take (v := ?_) (by rfl) ?_ ?_; rotate_left; (focus (intro W hW; obtain ⟨c0, c1'⟩ := HC0.out W hW; go_simp; (try with_reducible rfl); done)); try simp only [Act.put, List.setIfInBounds_toArray, List.set_cons_zero, List.set_cons_succ]) | (refine wpMix_leave (by rfl) ?_; try simp only [Act.put, List.setIfInBounds_toArray, List.set_cons_zero, List.set_cons_succ])))
            refine wpMix_walk ?_
            go_wp2_with (go_at_call 11; (with_reducible refine useC HDF.out ?_); rintro e w4 ⟨rfl, hd4, hf4⟩; have HS4 := Lib.hid (HSD.out.turn hd4 hf4 HSD.out.ok); clear hd4 hf4)
            refine MixQ.mk (HS4.out.fr) ?_
            (iterate 3 (first | (refine wpMix_take (v := ?_) (by rfl) ?_ ?_; rotate_left; (focus (intro W hW; skip; go_simp; (try with_reducible rfl); done)); try simp only [Act.put, List.setIfInBounds_toArray, List.set_cons_zero, List.set_cons_succ]) | (refine wpMix_leave (by rfl) ?_; try simp only [Act.put, List.setIfInBounds_toArray, List.set_cons_zero, List.set_cons_succ])))
            refine wpMix_walk ?_
            go_wp2
            refine MixQ.mk (HS4.out.fr) ?_
            refine wpMix_nil ?_
            go_wp2_with (go_at_call 12; (with_reducible refine useC (error_one w4 (HE.out w4 HS4.out.fr)) ?_); rintro e w5 ⟨rfl, hf⟩; have HS5 := Lib.hid (HS4.out.step hf); clear hf)
            obtain ⟨d5, A4, c4, A5, c5, A6, c6, HS5⟩ : ∃ d5 A4 c4 A5 c5 A6 c6, Hid (SdS w w5 b X (.slice A4 16 c4) (.slice A5 8 c5) (.slice A6 8 c6) d5 d5) := ⟨_, _, _, _, _, _, _, HS5⟩
            clear HS4 HSD HDF HC0 e1 x0 x1 x2 hfz c0 c1' hcell hS
            have HVS := Lib.hid (sh_Values w5 b d5 HS5.out.disk HS5.out.ok.slots HS5.out.ok.shT_old HS5.out.ok.shT_now)
            have HSX := Lib.hid (fun W (hW : Fr [] w5 W) => HS5.out.step hW)
            have HVN := Lib.hid (fun W (hW : Fr [] w5 W) => (by
              obtain ⟨g3, -, h3⟩ := (HS5.out.step hW).now
              exact sd_Values W _ _ _ g3 d5 d5.now (HS5.out.step hW).val HS5.out.ok.slots h3 HS5.out.ok.tnow.len HS5.out.ok.tnow.hi :
                Calls Tryd.prog 16 #[.agg #[.slice A4 16 c4, .slice A5 8 c5, .slice A6 8 c6], .slice A6 8 c6] W (NewRow (Sh.vals d5.slot d5.now) W)))
            have HVO := Lib.hid (fun W (hW : Fr [] w5 W) => (by
              obtain ⟨g2, -, h2⟩ := (HS5.out.step hW).old
              exact sd_Values W _ _ _ g2 d5 d5.old (HS5.out.step hW).val HS5.out.ok.slots h2 HS5.out.ok.told.len HS5.out.ok.told.hi :
                Calls Tryd.prog 16 #[.agg #[.slice A4 16 c4, .slice A5 8 c5, .slice A6 8 c6], .slice A5 8 c5] W (NewRow (Sh.vals d5.slot d5.old) W)))
            have HSL := Lib.hid (fun W (hW : Fr [] w5 W) => sh_slots W b d5 (HS5.out.step hW).disk HS5.out.ok.slots HS5.out.ok.told.len HS5.out.ok.tnow.len)
            have HNW := Lib.hid (fun W (hW : Fr [] w5 W) => (HS5.out.step hW).now)
            go_wp2_with (go_at_call 14; (with_reducible refine useC HVS.out ?_); rintro e w6 ⟨va, vb, ga, gb, rfl, -, -, hs1, hs2, hf⟩; have HF6 := Lib.hid hf; have HA := Lib.hid (fun W (hW : Fr [] w6 W) => hs1.fr hW (by simp)); have HB := Lib.hid (fun W (hW : Fr [] w6 W) => hs2.fr hW (by simp)); clear hs1 hs2 hf)
            (refine wp_region_mix (Fr [] w6 ·) 21 [(true, 0), (true, 1), (true, 2), (true, 3), (false, 4), (false, 5), (true, 6), (true, 7), (true, 8), (true, 9), (true, 10), (true, 11), (false, 12), (false, 13), (true, 14), (true, 15), (true, 16), (true, 17), (true, 19), (true, 20), (false, 18)] (by kernel_rfl) (by kernel_rfl) ((Fr.refl _ _).drew) ?_; simp only [pickOps, List.map_cons, List.map_nil, List.getD_cons_zero, List.getD_cons_succ, List.drop_succ_cons, List.drop_zero])
            (iterate 4 (first | (refine wpMix_take (v := ?_) (by rfl) ?_ ?_; rotate_left; (focus (intro W hW; obtain ⟨⟨y0, y1, y2⟩, -⟩ := (HSX.out W (HF6.out.trans hW)).cells; go_simp; (try with_reducible rfl); done)); try simp only [Act.put, List.setIfInBounds_toArray, List.set_cons_zero, List.set_cons_succ]) | (refine wpMix_leave (by rfl) ?_; try simp only [Act.put, List.setIfInBounds_toArray, List.set_cons_zero, List.set_cons_succ])))
            refine wpMix_walk ?_
            go_wp2_with (go_at_call 16; (with_reducible refine useC (HVN.out w6.drew (HF6.out.drew)) ?_); rintro e w7 ⟨v7, g7, rfl, -, hs, hf⟩; have HF7 : Hid (Fr [] w6 w7) := ((Fr.refl [] w6).drew).trans hf; have HC7 := Lib.hid hs; clear hs hf)
            refine MixQ.mk (HF7.out) ?_
            refine wpMix_walk ?_
            go_wp2_with (go_at_call 15; (with_reducible refine useC (ints_same w7 _ _ ga g7 _ (HA.out w7 HF7.out) HC7.out) ?_); rintro e w8 ⟨rfl, hdr⟩; have HF8 := Lib.hid (HF7.out.trans (hdr.fr [])); clear hdr)
            refine MixQ.mk (HF8.out) ?_
            (iterate 6 (first | (refine wpMix_take (v := ?_) (by rfl) ?_ ?_; rotate_left; (focus (intro W hW; obtain ⟨⟨y0, y1, y2⟩, -⟩ := (HSX.out W (HF6.out.trans hW)).cells; go_simp; (try with_reducible rfl); done)); try simp only [Act.put, List.setIfInBounds_toArray, List.set_cons_zero, List.set_cons_succ]) | (refine wpMix_leave (by rfl) ?_; try simp only [Act.put, List.setIfInBounds_toArray, List.set_cons_zero, List.set_cons_succ])))
            refine wpMix_walk ?_
            go_wp2_with (go_at_call 16; (with_reducible refine useC (HVO.out w8 (HF6.out.trans HF8.out)) ?_); rintro e w9 ⟨v9, g9, rfl, -, hs, hf⟩; have HF9 : Hid (Fr [] w6 w9) := HF8.out.trans hf; have HC9 := Lib.hid hs; clear hs hf)
            refine MixQ.mk (HF9.out) ?_
            refine wpMix_walk ?_
            go_wp2_with (go_at_call 15; (with_reducible refine useC (ints_same w9 _ _ gb g9 _ (HB.out w9 HF9.out) HC9.out) ?_); rintro e w10 ⟨rfl, hdr⟩; have HF10 := Lib.hid (HF9.out.trans (hdr.fr [])); clear hdr)
            refine MixQ.mk (HF10.out) ?_
            (iterate 6 (first | (refine wpMix_take (v := ?_) (by rfl) ?_ ?_; rotate_left; (focus (intro W hW; obtain ⟨⟨y0, y1, y2⟩, -⟩ := (HSX.out W (HF6.out.trans hW)).cells; go_simp; (try with_reducible rfl); done)); try simp only [Act.put, List.setIfInBounds_toArray, List.set_cons_zero, List.set_cons_succ]) | (refine wpMix_leave (by rfl) ?_; try simp only [Act.put, List.setIfInBounds_toArray, List.set_cons_zero, List.set_cons_succ])))
            refine wpMix_walk ?_
            go_wp2_with (go_at_call 17; (with_reducible refine useC (HSL.out w10 (HF6.out.trans HF10.out)) ?_); rintro e w11 ⟨v11, g11, rfl, -, hs, hf⟩; have HF11 : Hid (Fr [] w6 w11) := HF10.out.trans hf; have HC11 := Lib.hid hs; clear hs hf)
            refine MixQ.mk (HF11.out) ?_
            refine wpMix_nil ?_
            obtain ⟨gn, -, hsn⟩ := HNW.out w11 (HF6.out.trans HF11.out)
            have HCN := Lib.hid hsn
            clear hsn
            go_wp2_with (go_at_call 15; (with_reducible refine useC (ints_same w11 _ _ g11 gn _ HC11.out HCN.out) ?_); rintro e w12 ⟨rfl, hdr⟩; have HS12 := Lib.hid (HS5.out.step (HF6.out.trans (HF11.out.trans (hdr.fr [])))); clear hdr)
            go_roundw
            case rel => exact ⟨k + 1, by omega, by omega, by go_num, _, _, _, _, _, _, _, HS12⟩
            case measure => simp [intOf]; omega
        · by_cases hl3 : (nthR ls k).length = 3
          · have b1 : (((nthR ls k).length : Int) == 1) = false := beq_eq_false_iff_ne.2 (by omega)
            have b2 : (((nthR ls k).length : Int) == 2) = false := beq_eq_false_iff_ne.2 (by omega)
            rw [hl3] at hcell b1 b2
            have HS3 := Lib.hid (hS.out.crash_)
            have HDF := Lib.hid (sh_crash _ b d HS3.out.disk HS3.out.ok.slots HS3.out.ok.told.len HS3.out.ok.tnow.len)
            clear hc' hA' hl1 hl2 hl3
            go_wp2_with (go_at_call 13; (with_reducible refine useC HDF.out ?_); rintro e w5 ⟨rfl, hd5, hf5⟩; have HS5 := Lib.hid (HS3.out.turn hd5 hf5 (Sh.crash_ok HS3.out.ok)); clear hd5 hf5)
            obtain ⟨d5, A4, c4, A5, c5, A6, c6, HS5⟩ : ∃ d5 A4 c4 A5 c5 A6 c6, Hid (SdS w w5 b X (.slice A4 16 c4) (.slice A5 8 c5) (.slice A6 8 c6) d5 d5) := ⟨_, _, _, _, _, _, _, HS5⟩
            clear HS3 HDF x0 x1 x2 hfz hcell hS
            have HVS := Lib.hid (sh_Values w5 b d5 HS5.out.disk HS5.out.ok.slots HS5.out.ok.shT_old HS5.out.ok.shT_now)
            have HSX := Lib.hid (fun W (hW : Fr [] w5 W) => HS5.out.step hW)
            have HVN := Lib.hid (fun W (hW : Fr [] w5 W) => (by
              obtain ⟨g3, -, h3⟩ := (HS5.out.step hW).now
              exact sd_Values W _ _ _ g3 d5 d5.now (HS5.out.step hW).val HS5.out.ok.slots h3 HS5.out.ok.tnow.len HS5.out.ok.tnow.hi :
                Calls Tryd.prog 16 #[.agg #[.slice A4 16 c4, .slice A5 8 c5, .slice A6 8 c6], .slice A6 8 c6] W (NewRow (Sh.vals d5.slot d5.now) W)))
            have HVO := Lib.hid (fun W (hW : Fr [] w5 W) => (by
              obtain ⟨g2, -, h2⟩ := (HS5.out.step hW).old
              exact sd_Values W _ _ _ g2 d5 d5.old (HS5.out.step hW).val HS5.out.ok.slots h2 HS5.out.ok.told.len HS5.out.ok.told.hi :
                Calls Tryd.prog 16 #[.agg #[.slice A4 16 c4, .slice A5 8 c5, .slice A6 8 c6], .slice A5 8 c5] W (NewRow (Sh.vals d5.slot d5.old) W)))
            have HSL := Lib.hid (fun W (hW : Fr [] w5 W) => sh_slots W b d5 (HS5.out.step hW).disk HS5.out.ok.slots HS5.out.ok.told.len HS5.out.ok.tnow.len)
            have HNW := Lib.hid (fun W (hW : Fr [] w5 W) => (HS5.out.step hW).now)
            go_wp2_with (go_at_call 14; (with_reducible refine useC HVS.out ?_); rintro e w6 ⟨va, vb, ga, gb, rfl, -, -, hs1, hs2, hf⟩; have HF6 := Lib.hid hf; have HA := Lib.hid (fun W (hW : Fr [] w6 W) => hs1.fr hW (by simp)); have HB := Lib.hid (fun W (hW : Fr [] w6 W) => hs2.fr hW (by simp)); clear hs1 hs2 hf)
            (refine wp_region_mix (Fr [] w6 ·) 21 [(true, 0), (true, 1), (true, 2), (true, 3), (false, 4), (false, 5), (true, 6), (true, 7), (true, 8), (true, 9), (true, 10), (true, 11), (false, 12), (false, 13), (true, 14), (true, 15), (true, 16), (true, 17), (true, 19), (true, 20), (false, 18)] (by kernel_rfl) (by kernel_rfl) ((Fr.refl _ _).drew) ?_; simp only [pickOps, List.map_cons, List.map_nil, List.getD_cons_zero, List.getD_cons_succ, List.drop_succ_cons, List.drop_zero])
            (iterate 4 (first | (refine wpMix_take (v := ?_) (by rfl) ?_ ?_; rotate_left; (focus (intro W hW; obtain ⟨⟨y0, y1, y2⟩, -⟩ := (HSX.out W (HF6.out.trans hW)).cells; go_simp; (try with_reducible rfl); done)); try simp only [Act.put, List.setIfInBounds_toArray, List.set_cons_zero, List.set_cons_succ]) | (refine wpMix_leave (by rfl) ?_; try simp only [Act.put, List.setIfInBounds_toArray, List.set_cons_zero, List.set_cons_succ])))
            refine wpMix_walk ?_
            go_wp2_with (go_at_call 16; (with_reducible refine useC (HVN.out w6.drew (HF6.out.drew)) ?_); rintro e w7 ⟨v7, g7, rfl, -, hs, hf⟩; have HF7 : Hid (Fr [] w6 w7) := ((Fr.refl [] w6).drew).trans hf; have HC7 := Lib.hid hs; clear hs hf)
            refine MixQ.mk (HF7.out) ?_
            refine wpMix_walk ?_
            go_wp2_with (go_at_call 15; (with_reducible refine useC (ints_same w7 _ _ ga g7 _ (HA.out w7 HF7.out) HC7.out) ?_); rintro e w8 ⟨rfl, hdr⟩; have HF8 := Lib.hid (HF7.out.trans (hdr.fr [])); clear hdr)
            refine MixQ.mk (HF8.out) ?_
            (iterate 6 (first | (refine wpMix_take (v := ?_) (by rfl) ?_ ?_; rotate_left; (focus (intro W hW; obtain ⟨⟨y0, y1, y2⟩, -⟩ := (HSX.out W (HF6.out.trans hW)).cells; go_simp; (try with_reducible rfl); done)); try simp only [Act.put, List.setIfInBounds_toArray, List.set_cons_zero, List.set_cons_succ]) | (refine wpMix_leave (by rfl) ?_; try simp only [Act.put, List.setIfInBounds_toArray, List.set_cons_zero, List.set_cons_succ])))
            refine wpMix_walk ?_
            go_wp2_with (go_at_call 16; (with_reducible refine useC (HVO.out w8 (HF6.out.trans HF8.out)) ?_); rintro e w9 ⟨v9, g9, rfl, -, hs, hf⟩; have HF9 : Hid (Fr [] w6 w9) := HF8.out.trans hf; have HC9 := Lib.hid hs; clear hs hf)
            refine MixQ.mk (HF9.out) ?_
            refine wpMix_walk ?_
            go_wp2_with (go_at_call 15; (with_reducible refine useC (ints_same w9 _ _ gb g9 _ (HB.out w9 HF9.out) HC9.out) ?_); rintro e w10 ⟨rfl, hdr⟩; have HF10 := Lib.hid (HF9.out.trans (hdr.fr [])); clear hdr)
            refine MixQ.mk (HF10.out) ?_
            (iterate 6 (first | (refine wpMix_take (v := ?_) (by rfl) ?_ ?_; rotate_left; (focus (intro W hW; obtain ⟨⟨y0, y1, y2⟩, -⟩ := (HSX.out W (HF6.out.trans hW)).cells; go_simp; (try with_reducible rfl); done)); try simp only [Act.put, List.setIfInBounds_toArray, List.set_cons_zero, List.set_cons_succ]) | (refine wpMix_leave (by rfl) ?_; try simp only [Act.put, List.setIfInBounds_toArray, List.set_cons_zero, List.set_cons_succ])))
            refine wpMix_walk ?_
            go_wp2_with (go_at_call 17; (with_reducible refine useC (HSL.out w10 (HF6.out.trans HF10.out)) ?_); rintro e w11 ⟨v11, g11, rfl, -, hs, hf⟩; have HF11 : Hid (Fr [] w6 w11) := HF10.out.trans hf; have HC11 := Lib.hid hs; clear hs hf)
            refine MixQ.mk (HF11.out) ?_
            refine wpMix_nil ?_
            obtain ⟨gn, -, hsn⟩ := HNW.out w11 (HF6.out.trans HF11.out)
            have HCN := Lib.hid hsn
            clear hsn
            go_wp2_with (go_at_call 15; (with_reducible refine useC (ints_same w11 _ _ g11 gn _ HC11.out HCN.out) ?_); rintro e w12 ⟨rfl, hdr⟩; have HS12 := Lib.hid (HS5.out.step (HF6.out.trans (HF11.out.trans (hdr.fr [])))); clear hdr)
            go_roundw
            case rel => exact ⟨k + 1, by omega, by omega, by go_num, _, _, _, _, _, _, _, HS12⟩
            case measure => simp [intOf]; omega
          · have b1 : (((nthR ls k).length : Int) == 1) = false := beq_eq_false_iff_ne.2 (by omega)
            have b2 : (((nthR ls k).length : Int) == 2) = false := beq_eq_false_iff_ne.2 (by omega)
            have b3 : (((nthR ls k).length : Int) == 3) = false := beq_eq_false_iff_ne.2 (by omega)
            clear hc' hA' hl1 hl2 hl3
            go_wp2_with fail
            obtain ⟨w5, hw5⟩ : ∃ x, x = wr := ⟨_, rfl⟩
            subst hw5
            obtain ⟨d5, A4, c4, A5, c5, A6, c6, HS5⟩ : ∃ d5 A4 c4 A5 c5 A6 c6, Hid (SdS w w5 b X (.slice A4 16 c4) (.slice A5 8 c5) (.slice A6 8 c6) d5 d5) := ⟨_, _, _, _, _, _, _, hS⟩
            clear x0 x1 x2 hfz hcell hS
            have HVS := Lib.hid (sh_Values w5 b d5 HS5.out.disk HS5.out.ok.slots HS5.out.ok.shT_old HS5.out.ok.shT_now)
            have HSX := Lib.hid (fun W (hW : Fr [] w5 W) => HS5.out.step hW)
            have HVN := Lib.hid (fun W (hW : Fr [] w5 W) => (by
              obtain ⟨g3, -, h3⟩ := (HS5.out.step hW).now
              exact sd_Values W _ _ _ g3 d5 d5.now (HS5.out.step hW).val HS5.out.ok.slots h3 HS5.out.ok.tnow.len HS5.out.ok.tnow.hi :
                Calls Tryd.prog 16 #[.agg #[.slice A4 16 c4, .slice A5 8 c5, .slice A6 8 c6], .slice A6 8 c6] W (NewRow (Sh.vals d5.slot d5.now) W)))
            have HVO := Lib.hid (fun W (hW : Fr [] w5 W) => (by
              obtain ⟨g2, -, h2⟩ := (HS5.out.step hW).old
              exact sd_Values W _ _ _ g2 d5 d5.old (HS5.out.step hW).val HS5.out.ok.slots h2 HS5.out.ok.told.len HS5.out.ok.told.hi :
                Calls Tryd.prog 16 #[.agg #[.slice A4 16 c4, .slice A5 8 c5, .slice A6 8 c6], .slice A5 8 c5] W (NewRow (Sh.vals d5.slot d5.old) W)))
            have HSL := Lib.hid (fun W (hW : Fr [] w5 W) => sh_slots W b d5 (HS5.out.step hW).disk HS5.out.ok.slots HS5.out.ok.told.len HS5.out.ok.tnow.len)
            have HNW := Lib.hid (fun W (hW : Fr [] w5 W) => (HS5.out.step hW).now)
            go_wp2_with (go_at_call 14; (with_reducible refine useC HVS.out ?_); rintro e w6 ⟨va, vb, ga, gb, rfl, -, -, hs1, hs2, hf⟩; have HF6 := Lib.hid hf; have HA := Lib.hid (fun W (hW : Fr [] w6 W) => hs1.fr hW (by simp)); have HB := Lib.hid (fun W (hW : Fr [] w6 W) => hs2.fr hW (by simp)); clear hs1 hs2 hf)
            (refine wp_region_mix (Fr [] w6 ·) 21 [(true, 0), (true, 1), (true, 2), (true, 3), (false, 4), (false, 5), (true, 6), (true, 7), (true, 8), (true, 9), (true, 10), (true, 11), (false, 12), (false, 13), (true, 14), (true, 15), (true, 16), (true, 17), (true, 19), (true, 20), (false, 18)] (by kernel_rfl) (by kernel_rfl) ((Fr.refl _ _).drew) ?_; simp only [pickOps, List.map_cons, List.map_nil, List.getD_cons_zero, List.getD_cons_succ, List.drop_succ_cons, List.drop_zero])
            (iterate 4 (first | (refine wpMix_take (v := ?_) (by rfl) ?_ ?_; rotate_left; (focus (intro W hW; obtain ⟨⟨y0, y1, y2⟩, -⟩ := (HSX.out W (HF6.out.trans hW)).cells; go_simp; (try with_reducible rfl); done)); try simp only [Act.put, List.setIfInBounds_toArray, List.set_cons_zero, List.set_cons_succ]) | (refine wpMix_leave (by rfl) ?_; try simp only [Act.put, List.setIfInBounds_toArray, List.set_cons_zero, List.set_cons_succ])))
            refine wpMix_walk ?_
            go_wp2_with (go_at_call 16; (with_reducible refine useC (HVN.out w6.drew (HF6.out.drew)) ?_); rintro e w7 ⟨v7, g7, rfl, -, hs, hf⟩; have HF7 : Hid (Fr [] w6 w7) := ((Fr.refl [] w6).drew).trans hf; have HC7 := Lib.hid hs; clear hs hf)
            refine MixQ.mk (HF7.out) ?_
            refine wpMix_walk ?_
            go_wp2_with (go_at_call 15; (with_reducible refine useC (ints_same w7 _ _ ga g7 _ (HA.out w7 HF7.out) HC7.out) ?_); rintro e w8 ⟨rfl, hdr⟩; have HF8 := Lib.hid (HF7.out.trans (hdr.fr [])); clear hdr)
            refine MixQ.mk (HF8.out) ?_
            (iterate 6 (first | (refine wpMix_take (v := ?_) (by rfl) ?_ ?_; rotate_left; (focus (intro W hW; obtain ⟨⟨y0, y1, y2⟩, -⟩ := (HSX.out W (HF6.out.trans hW)).cells; go_simp; (try with_reducible rfl); done)); try simp only [Act.put, List.setIfInBounds_toArray, List.set_cons_zero, List.set_cons_succ]) | (refine wpMix_leave (by rfl) ?_; try simp only [Act.put, List.setIfInBounds_toArray, List.set_cons_zero, List.set_cons_succ])))
            refine wpMix_walk ?_
            go_wp2_with (go_at_call 16; (with_reducible refine useC (HVO.out w8 (HF6.out.trans HF8.out)) ?_); rintro e w9 ⟨v9, g9, rfl, -, hs, hf⟩; have HF9 : Hid (Fr [] w6 w9) := HF8.out.trans hf; have HC9 := Lib.hid hs; clear hs hf)
            refine MixQ.mk (HF9.out) ?_
            refine wpMix_walk ?_
            go_wp2_with (go_at_call 15; (with_reducible refine useC (ints_same w9 _ _ gb g9 _ (HB.out w9 HF9.out) HC9.out) ?_); rintro e w10 ⟨rfl, hdr⟩; have HF10 := Lib.hid (HF9.out.trans (hdr.fr [])); clear hdr)
            refine MixQ.mk (HF10.out) ?_
            (iterate 6 (first | (refine wpMix_take (v := ?_) (by rfl) ?_ ?_; rotate_left; (focus (intro W hW; obtain ⟨⟨y0, y1, y2⟩, -⟩ := (HSX.out W (HF6.out.trans hW)).cells; go_simp; (try with_reducible rfl); done)); try simp only [Act.put, List.setIfInBounds_toArray, List.set_cons_zero, List.set_cons_succ]) | (refine wpMix_leave (by rfl) ?_; try simp only [Act.put, List.setIfInBounds_toArray, List.set_cons_zero, List.set_cons_succ])))
            refine wpMix_walk ?_
            go_wp2_with (go_at_call 17; (with_reducible refine useC (HSL.out w10 (HF6.out.trans HF10.out)) ?_); rintro e w11 ⟨v11, g11, rfl, -, hs, hf⟩; have HF11 : Hid (Fr [] w6 w11) := HF10.out.trans hf; have HC11 := Lib.hid hs; clear hs hf)
            refine MixQ.mk (HF11.out) ?_
            refine wpMix_nil ?_
            obtain ⟨gn, -, hsn⟩ := HNW.out w11 (HF6.out.trans HF11.out)
            have HCN := Lib.hid hsn
            clear hsn
            go_wp2_with (go_at_call 15; (with_reducible refine useC (ints_same w11 _ _ g11 gn _ HC11.out HCN.out) ?_); rintro e w12 ⟨rfl, hdr⟩; have HS12 := Lib.hid (HS5.out.step (HF6.out.trans (HF11.out.trans (hdr.fr [])))); clear hdr)
            go_roundw
            case rel => exact ⟨k + 1, by omega, by omega, by go_num, _, _, _, _, _, _, _, HS12⟩
            case measure => simp [intOf]; omega
    · have hout : ¬ (k : Int) < ls.length ∨ ((k : Int) < ls.length ∧ ¬ (k : Int) < 60) := by omega
      rcases hout with hout | ⟨hout, hout'⟩
      all_goals
        go_wp2
        go_ret
        exact ⟨rfl, hS.out.fr⟩
end Go.Proofs.YtmhmbgkpojgbbaaDoor
