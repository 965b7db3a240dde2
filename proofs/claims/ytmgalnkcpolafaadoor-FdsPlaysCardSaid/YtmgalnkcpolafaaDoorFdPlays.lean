/- FdsPlays: any numbers, and anything that is done with them. Printed by wip/gen_fdplays.py. -/
import Derived.Test.YtmgalnkcpolafaaDoorFdPlays1
import Derived.Test.YtmgalnkcpolafaaDoorMix
import Derived.Test.YtmgalnkcpolafaaDoorRw2
import Derived.Test.YtmgalnkcpolafaaDoorErr2
namespace Go.Proofs.YtmgalnkcpolafaaDoor
open Go.RowKit

theorem fdErr0 : errV 0 = .nilIface := rfl
set_option maxRecDepth 100000 in
set_option maxHeartbeats 8000000 in
theorem fd_plays (w : World) (v : Value) (ls : List (List Int)) (hR : Rw w.heap.size w v ls) (hE : ErrType w) :
    Calls Tryd.prog 4 #[v] w (OkT w) := by
  have HE := Lib.hid (fun W (hW : Fr [] w W) => hE.fr hW (by simp))
  obtain ⟨A, g, o, c, rfl, hm, hF⟩ := hR
  have HF := Lib.hid hF
  clear hF hE
  go_enter Tryd.func4, Tryd.ntmps4
  go_wp2_with (first
    | (go_at_call 14; (with_reducible refine useC (fd_new w w.heap.size (Nat.le_refl _)) ?_); rintro e w0 ⟨rfl, hs, hf⟩; have HS0 := Lib.hid hs; have HF0 := Lib.hid hf; clear hs hf)
    | (go_at_call 15; (with_reducible refine useC (fx_New w0) ?_); rintro e w1 ⟨v, rfl, hv, hf⟩; obtain ⟨A1, c1, A2, c2, A3, c3, rfl, hS⟩ := FdS.start HS0.out HF0.out hv hf; have HS := Lib.hid hS; clear hv hf hS HS0 HF0))
  generalize hb : w.heap.size = b at HS ⊢
  clear hb
  revert HS
  generalize w1.alloc (.cells #[.slice A1 8 c1, .slice A2 0 c2, .slice A3 0 c3] 38) = wA
  generalize w1.heap.size = X at *
  intro HS
  go_loopw [5] (fun i wr => ∃ k : Nat, k ≤ ls.length ∧ k ≤ 60 ∧ i = .int .i64 k ∧ ∃ A1 c1 A2 c2 A3 c3 t fs x, Hid (FdS w wr b X t fs (.slice A1 8 c1) (.slice A2 x.sz.length c2) (.slice A3 x.pl.length c3) x) ∧ Hid (Fx.Rel t x fs) ∧ Hid (Fd.OK t) ∧ Hid (fs.length ≤ k)) (fun i _ => 60 - (intOf i).toNat)
  case atStart => exact ⟨0, Nat.zero_le _, Nat.zero_le _, rfl, _, _, _, _, _, _, Fd.new, [], Fx.new, HS, Fx.new_rel, Fd.new_ok, Nat.le_refl _⟩
  case round =>
    clear HS
    obtain ⟨k, hk, hk6, rfl, A1, c1, A2, c2, A3, c3, t, fs, x, hS, hR, hO, hL⟩ := hrel
    by_cases hin : k < ls.length ∧ k < 60
    · obtain ⟨hlt, h60⟩ := hin
      obtain ⟨rfl, hg⟩ := HF.out.1 (by omega)
      obtain ⟨u, kb, hcell0, hkb, hsl, _⟩ := HF.out.2 k hlt
      have hcell := hS.out.fr.cell hcell0 (by simp)
      obtain ⟨A', o', c', rfl, hm', hA', hc'⟩ := hsl.form
      have i0 : (0 : Int) ≤ k := by omega
      have i1 : (k : Int) < ls.length := by omega
      have i6 : (k : Int) < 60 := by omega
      clear hsl hcell0 hkb
      obtain ⟨x0, x1, x2⟩ := hS.out.box.cells
      have HSD := Lib.hid (hS.out.step (Fr.refl [] wr).drew)
      have H8 := Lib.hid hR.out.len
      have hsz : x.sz.length ≤ k := by have := hR.out.ls; have := hL.out; omega
      have hpl : x.pl.length ≤ k := by have := hR.out.la; have := hL.out; omega
      by_cases hl1 : (nthR ls k).length = 1
      · have e1 : ((nthR ls k).length : Int) = 1 := by omega
        obtain rfl := hA' (by omega)
        have c0 := hc' 0 (by omega)
        rw [Nat.add_zero] at c0
        have HC0 := Lib.hid (fun W (hW : Fr [] w W) => hW.cell c0 (by simp))
        clear c0
        rw [hl1] at hcell
        clear hc' hA'
        generalize nth (nthR ls k) 0 = y0 at *
        obtain ⟨⟨x5, n5, ec⟩, hr5⟩ : ∃ r, r = Fx.opn x y0 := ⟨_, rfl⟩
        have HX8 : Hid (x5.of_.length = 8) := by
          show _ = _
          have h := Fx.opn_len x y0
          rw [← hr5] at h
          exact h.trans H8.out
        have HCX : Hid (Calls Tryd.prog 16 #[.agg #[.slice A1 8 c1, .slice A2 x.sz.length c2, .slice A3 x.pl.length c3], .int .i64 y0] wr.drew fun e w' => ∃ v, e = .returned (.tuple #[v, .int .i64 n5, .int .i64 ec]) ∧ FxV (FdG w b X fs) w' v x5 ∧ FrP (FdG w b X fs) wr.drew w') := by
          have h := fx_Open wr.drew _ _ x y0 HSD.out.val H8.out (by omega) (by omega) HSD.out.new
          rw [← hr5] at h
          exact h
        have HFO : Hid (∀ w3 v1 v2 v3, FdS w w3 b X t fs v1 v2 v3 x5 → Calls Tryd.prog 10 #[.pointer (some ⟨b, 0, none⟩), .int .i64 y0] w3 (FdPost w b X v1 v2 v3 x5 k n5 ec)) := fun w3 v1 v2 v3 h => by
          have h' := fdp_open h hR.out hO.out hL.out y0 (by rw [← hr5])
          rw [← hr5] at h'
          exact h'
        clear hr5
        go_wp2_with fail
        (refine wp_region_mix (Fr [] w ·) 11 [(true, 1), (true, 2), (true, 3), (false, 0), (false, 4), (true, 5), (true, 6), (true, 7), (true, 8), (false, 9), (false, 10)] (by kernel_rfl) (by kernel_rfl) (hS.out.fr.drew) ?_; simp only [pickOps, List.map_cons, List.map_nil, List.getD_cons_zero, List.getD_cons_succ, List.drop_succ_cons, List.drop_zero])
        (iterate 3 (first | (refine wpMix_take (v := ?_) (by rfl) ?_ ?_; rotate_left; (focus (intro W hW; have c0 := HC0.out W hW; go_simp; (try with_reducible rfl); done)); try simp only [Act.put, List.setIfInBounds_toArray, List.set_cons_zero, List.set_cons_succ]) | (refine wpMix_leave (by rfl) ?_; try simp only [Act.put, List.setIfInBounds_toArray, List.set_cons_zero, List.set_cons_succ])))
        refine wpMix_walk ?_
        go_wp2
        refine MixQ.mk (HSD.out.fr) ?_
        refine wpMix_walk ?_
        go_wp2_with (go_at_call 16; (with_reducible refine useC HCX.out ?_); rintro e w2 ⟨v2, rfl, hv2, hf2⟩; obtain ⟨a4, a5, a6, rfl, ⟨A4, c4, h4⟩, ⟨A5, c5, rfl⟩, ⟨A6, c6, rfl⟩, hb2, hfr2, hS3⟩ := HSD.out.put hf2 hv2; rw [HX8.out] at h4; subst h4; have HS3 := Lib.hid hS3; have HFR2 := Lib.hid hfr2; have HB2 := Lib.hid hb2; clear hS3 hv2 hf2 hb2 hfr2)
        refine MixQ.mk (HFR2.out) ?_
        (iterate 4 (first | (refine wpMix_take (v := ?_) (by rfl) ?_ ?_; rotate_left; (focus (intro W hW; skip; go_simp; (try with_reducible rfl); done)); try simp only [Act.put, List.setIfInBounds_toArray, List.set_cons_zero, List.set_cons_succ]) | (refine wpMix_leave (by rfl) ?_; try simp only [Act.put, List.setIfInBounds_toArray, List.set_cons_zero, List.set_cons_succ])))
        refine wpMix_walk ?_
        clear x0 x1 x2
        obtain ⟨x0, x1, x2⟩ := HB2.out.cells
        have hfz := fun i => free_block HB2.out i none
        go_wp2
        refine MixQ.mk (HS3.out.fr) ?_
        refine wpMix_walk ?_
        go_wp2
        refine MixQ.mk (HS3.out.fr) ?_
        refine wpMix_nil ?_
        clear x0 x1 x2 hfz HCX HB2 HFR2
        generalize ((w2.setCell ⟨X, 0, none⟩ (.slice A4 8 c4)).setCell ⟨X, 1, none⟩ (.slice A5 x5.sz.length c5)).setCell ⟨X, 2, none⟩ (.slice A6 x5.pl.length c6) = w3 at *
        have c0 := HC0.out w3 HS3.out.fr
        have HFO3 := Lib.hid (HFO.out w3 _ _ _ HS3.out)
        go_wp2_with (go_at_call 10; (with_reducible refine useC HFO3.out ?_); rintro e w5 ⟨rfl, t5, fs5, hs5, hr5, ho5, hl5⟩; have HS5 := Lib.hid hs5; have HR5 := Lib.hid hr5; have HO5 := Lib.hid ho5; have HL5 := Lib.hid hl5; clear hs5 hr5 ho5 hl5; go_frame)
        clear c0 HFO HFO3 HC0 HS3 HSD hS hR hO hL H8 HX8 hcell
        go_wp2_with (go_at_call 12; (with_reducible refine useC (error_yes ec w5 (HE.out w5 HS5.out.fr)) ?_); rintro e w6 ⟨rfl, hf⟩; have HS6 := Lib.hid (HS5.out.step hf); clear hf)
        go_loopw [11] (fun i wr => ∃ fd : Int, -1 ≤ fd ∧ fd ≤ 9 ∧ i = .int .i64 fd ∧ Hid (Fr [] w6 wr)) (fun i _ => (9 - intOf i).toNat)
        case atStart => exact ⟨-1, by decide, by decide, rfl, Fr.refl _ _⟩
        case round =>
          obtain ⟨fd, hfd1, hfd2, rfl, hFF⟩ := hrel
          have HSj := Lib.hid (HS6.out.step hFF.out)
          by_cases hlt' : fd ≤ 8
          · have HWR := Lib.hid (fx_Wrong wr _ _ x5 fd HSj.out.val HR5.out.len)
            have HAT := Lib.hid (HR5.out.place fd)
            obtain ⟨y0, y1, y2⟩ := HSj.out.box.cells
            by_cases hw : Fx.wrong x5 fd = 0
            · obtain ⟨⟨q1, -⟩, q3, -⟩ := HR5.out.fit HO5.out fd hw
              have hw0 := Fx.wrong_in hw
              obtain ⟨n, rfl⟩ : ∃ n : Nat, fd = n := ⟨fd.toNat, by omega⟩
              rw [Int.toNat_natCast] at q3
              have hn8 : n < 8 := by omega
              have n0 : (0 : Int) ≤ n := by omega
              have n8 : (n : Int) < 8 := by omega
              have HA : Hid (Fd.at_ t5 n = nth x5.pl (Fx.key x5 n)) := by
                show _ = _
                rw [← HAT.out]
                unfold Fx.at_
                rw [if_pos hw]
              obtain ⟨r1, r2, r3, e0, ⟨g1, -, h1⟩, -, h3, -⟩ := HSj.out.val
              injection e0 with e0
              injection e0 with e0
              injection e0 with e1 e0
              injection e0 with e2 e0
              injection e0 with e3 _
              subst e1 e2 e3
              obtain ⟨g3, cc3, ec3, -, j3⟩ := h3.row (by omega)
              injection ec3 with ec3 elen ec4
              clear elen
              subst ec3 ec4
              obtain ⟨oo1, cc1, ec1, -, -, k3⟩ := h1.form2 (by rw [HR5.out.len]; decide)
              rw [HR5.out.len] at ec1
              injection ec1 with ec1 elen ec2
              clear elen
              subst ec1 ec2
              have HC1 := Lib.hid (fun W (hW : Fr [] wr W) => hW.cell (k3 n (by rw [HR5.out.len]; exact hn8)) (by simp))
              have HC3 := Lib.hid (fun W (hW : Fr [] wr W) => hW.cell (j3 _ q1) (by simp))
              rw [q3] at HC1
              rw [hw] at HWR
              have kp : (Fx.key x5 n : Int) < x5.pl.length := by omega
              clear h1 h3 j3 k3 q3 hw hw0 HAT
              generalize Fx.key x5 n = kk at *
              have kk0 : (0 : Int) ≤ kk := by omega
              generalize nth x5.pl kk = av at *
              go_wp2_with (go_at_call 19; (with_reducible refine useC HWR.out ?_); rintro e w7 ⟨rfl, hf⟩; have HS7 := Lib.hid (HSj.out.step hf); have z1 := HC1.out w7 hf; have z3 := HC3.out w7 hf; have HF7 := Lib.hid (hFF.out.trans hf); clear hf y0 y1 y2; obtain ⟨y0, y1, y2⟩ := HS7.out.box.cells)
              (refine wp_region_mixq 7 [(true, 0), (true, 1), (true, 2), (true, 3), (true, 4), (true, 5), (true, 6)] (by kernel_rfl) (by kernel_rfl) ?_; simp only [pickOps, List.map_cons, List.map_nil, List.getD_cons_zero, List.getD_cons_succ, List.drop_succ_cons, List.drop_zero]; (iterate 7 (first | (refine wpMix_take (v := ?_) (by rfl) ?_ ?_; rotate_left; (focus (intro W hW; subst hW; go_simp; (try with_reducible rfl); done)); try simp only [Act.put, List.setIfInBounds_toArray, List.set_cons_zero, List.set_cons_succ]) | (refine wpMix_leave (by rfl) ?_; try simp only [Act.put, List.setIfInBounds_toArray, List.set_cons_zero, List.set_cons_succ]))); refine wpMix_nil ?_)
              have HATC := Lib.hid (fd_at w7.drew _ b t5 n (HS7.out.step (Fr.refl [] w7).drew).tab)
              rw [HA.out] at HATC
              go_wp2_with (go_at_call 9; (with_reducible refine useC HATC.out ?_); rintro e w8 ⟨rfl, rfl⟩)
              go_roundw
              case rel => exact ⟨(n : Int) + 1, by omega, by omega, rfl, HF7.out.drew⟩
              case measure => simp [intOf]; omega
            · have HA : Hid (Fd.at_ t5 fd = -1) := by
                show _ = _
                rw [← HAT.out]
                unfold Fx.at_
                rw [if_neg hw]
              generalize Fx.wrong x5 fd = wc at *
              clear HAT
              go_wp2_with (first
                | (go_at_call 19; (with_reducible refine useC HWR.out ?_); rintro e w7 ⟨rfl, hf⟩; have HS7 := Lib.hid (HSj.out.step hf); have HF7 := Lib.hid (hFF.out.trans hf); have HATC := Lib.hid (fd_at w7 _ b t5 fd HS7.out.tab); rw [HA.out] at HATC; clear hf)
                | (go_at_call 9; (with_reducible refine useC HATC.out ?_); rintro e w8 ⟨rfl, rfl⟩))
              go_roundw
              case rel => exact ⟨fd + 1, by omega, by omega, rfl, HF7⟩
              case measure => simp [intOf]; omega
          · have HSE := Lib.hid (HS6.out.step hFF.out)
            go_wp2
            go_roundw
            case rel => exact ⟨k + 1, by omega, by omega, by go_num, _, _, _, _, _, _, t5, fs5, x5, HSE, HR5, HO5, HL5⟩
            case measure => simp [intOf]; omega
      · by_cases hl2 : (nthR ls k).length = 2
        · skip
          obtain rfl := hA' (by omega)
          have c0 := hc' 0 (by omega)
          rw [Nat.add_zero] at c0
          have HC0 := Lib.hid (fun W (hW : Fr [] w W) => hW.cell c0 (by simp))
          clear c0
          rw [hl2] at hcell
          clear hc' hA'
          generalize nth (nthR ls k) 0 = y0 at *
          obtain ⟨⟨x5, n5, ec⟩, hr5⟩ : ∃ r, r = Fx.dup x y0 := ⟨_, rfl⟩
          have HX8 : Hid (x5.of_.length = 8) := by
            show _ = _
            have h := Fx.dup_len x y0
            rw [← hr5] at h
            exact h.trans H8.out
          have HCX : Hid (Calls Tryd.prog 17 #[.agg #[.slice A1 8 c1, .slice A2 x.sz.length c2, .slice A3 x.pl.length c3], .int .i64 y0] wr.drew fun e w' => ∃ v, e = .returned (.tuple #[v, .int .i64 n5, .int .i64 ec]) ∧ FxV (FdG w b X fs) w' v x5 ∧ FrP (FdG w b X fs) wr.drew w') := by
            have h := fx_Dup wr.drew _ _ x y0 HSD.out.val H8.out HSD.out.new
            rw [← hr5] at h
            exact h
          have HFO : Hid (∀ w3 v1 v2 v3, FdS w w3 b X t fs v1 v2 v3 x5 → Calls Tryd.prog 18 #[.pointer (some ⟨b, 0, none⟩), .int .i64 y0] w3 (FdPost w b X v1 v2 v3 x5 k n5 ec)) := fun w3 v1 v2 v3 h => by
            have h' := fdp_dup h hR.out hO.out hL.out y0 (by rw [← hr5])
            rw [← hr5] at h'
            exact h'
          clear hr5
          go_wp2_with fail
          (refine wp_region_mix (Fr [] w ·) 11 [(true, 1), (true, 2), (true, 3), (false, 0), (false, 4), (true, 5), (true, 6), (true, 7), (true, 8), (false, 9), (false, 10)] (by kernel_rfl) (by kernel_rfl) (hS.out.fr.drew) ?_; simp only [pickOps, List.map_cons, List.map_nil, List.getD_cons_zero, List.getD_cons_succ, List.drop_succ_cons, List.drop_zero])
          (iterate 3 (first | (refine wpMix_take (v := ?_) (by rfl) ?_ ?_; rotate_left; (focus (intro W hW; have c0 := HC0.out W hW; go_simp; (try with_reducible rfl); done)); try simp only [Act.put, List.setIfInBounds_toArray, List.set_cons_zero, List.set_cons_succ]) | (refine wpMix_leave (by rfl) ?_; try simp only [Act.put, List.setIfInBounds_toArray, List.set_cons_zero, List.set_cons_succ])))
          refine wpMix_walk ?_
          go_wp2
          refine MixQ.mk (HSD.out.fr) ?_
          refine wpMix_walk ?_
          go_wp2_with (go_at_call 17; (with_reducible refine useC HCX.out ?_); rintro e w2 ⟨v2, rfl, hv2, hf2⟩; obtain ⟨a4, a5, a6, rfl, ⟨A4, c4, h4⟩, ⟨A5, c5, rfl⟩, ⟨A6, c6, rfl⟩, hb2, hfr2, hS3⟩ := HSD.out.put hf2 hv2; rw [HX8.out] at h4; subst h4; have HS3 := Lib.hid hS3; have HFR2 := Lib.hid hfr2; have HB2 := Lib.hid hb2; clear hS3 hv2 hf2 hb2 hfr2)
          refine MixQ.mk (HFR2.out) ?_
          (iterate 4 (first | (refine wpMix_take (v := ?_) (by rfl) ?_ ?_; rotate_left; (focus (intro W hW; skip; go_simp; (try with_reducible rfl); done)); try simp only [Act.put, List.setIfInBounds_toArray, List.set_cons_zero, List.set_cons_succ]) | (refine wpMix_leave (by rfl) ?_; try simp only [Act.put, List.setIfInBounds_toArray, List.set_cons_zero, List.set_cons_succ])))
          refine wpMix_walk ?_
          clear x0 x1 x2
          obtain ⟨x0, x1, x2⟩ := HB2.out.cells
          have hfz := fun i => free_block HB2.out i none
          go_wp2
          refine MixQ.mk (HS3.out.fr) ?_
          refine wpMix_walk ?_
          go_wp2
          refine MixQ.mk (HS3.out.fr) ?_
          refine wpMix_nil ?_
          clear x0 x1 x2 hfz HCX HB2 HFR2
          generalize ((w2.setCell ⟨X, 0, none⟩ (.slice A4 8 c4)).setCell ⟨X, 1, none⟩ (.slice A5 x5.sz.length c5)).setCell ⟨X, 2, none⟩ (.slice A6 x5.pl.length c6) = w3 at *
          have c0 := HC0.out w3 HS3.out.fr
          have HFO3 := Lib.hid (HFO.out w3 _ _ _ HS3.out)
          go_wp2_with (go_at_call 18; (with_reducible refine useC HFO3.out ?_); rintro e w5 ⟨rfl, t5, fs5, hs5, hr5, ho5, hl5⟩; have HS5 := Lib.hid hs5; have HR5 := Lib.hid hr5; have HO5 := Lib.hid ho5; have HL5 := Lib.hid hl5; clear hs5 hr5 ho5 hl5; go_frame)
          clear c0 HFO HFO3 HC0 HS3 HSD hS hR hO hL H8 HX8 hcell
          go_wp2_with (go_at_call 12; (with_reducible refine useC (error_yes ec w5 (HE.out w5 HS5.out.fr)) ?_); rintro e w6 ⟨rfl, hf⟩; have HS6 := Lib.hid (HS5.out.step hf); clear hf)
          go_loopw [11] (fun i wr => ∃ fd : Int, -1 ≤ fd ∧ fd ≤ 9 ∧ i = .int .i64 fd ∧ Hid (Fr [] w6 wr)) (fun i _ => (9 - intOf i).toNat)
          case atStart => exact ⟨-1, by decide, by decide, rfl, Fr.refl _ _⟩
          case round =>
            obtain ⟨fd, hfd1, hfd2, rfl, hFF⟩ := hrel
            have HSj := Lib.hid (HS6.out.step hFF.out)
            by_cases hlt' : fd ≤ 8
            · have HWR := Lib.hid (fx_Wrong wr _ _ x5 fd HSj.out.val HR5.out.len)
              have HAT := Lib.hid (HR5.out.place fd)
              obtain ⟨y0, y1, y2⟩ := HSj.out.box.cells
              by_cases hw : Fx.wrong x5 fd = 0
              · obtain ⟨⟨q1, -⟩, q3, -⟩ := HR5.out.fit HO5.out fd hw
                have hw0 := Fx.wrong_in hw
                obtain ⟨n, rfl⟩ : ∃ n : Nat, fd = n := ⟨fd.toNat, by omega⟩
                rw [Int.toNat_natCast] at q3
                have hn8 : n < 8 := by omega
                have n0 : (0 : Int) ≤ n := by omega
                have n8 : (n : Int) < 8 := by omega
                have HA : Hid (Fd.at_ t5 n = nth x5.pl (Fx.key x5 n)) := by
                  show _ = _
                  rw [← HAT.out]
                  unfold Fx.at_
                  rw [if_pos hw]
                obtain ⟨r1, r2, r3, e0, ⟨g1, -, h1⟩, -, h3, -⟩ := HSj.out.val
                injection e0 with e0
                injection e0 with e0
                injection e0 with e1 e0
                injection e0 with e2 e0
                injection e0 with e3 _
                subst e1 e2 e3
                obtain ⟨g3, cc3, ec3, -, j3⟩ := h3.row (by omega)
                injection ec3 with ec3 elen ec4
                clear elen
                subst ec3 ec4
                obtain ⟨oo1, cc1, ec1, -, -, k3⟩ := h1.form2 (by rw [HR5.out.len]; decide)
                rw [HR5.out.len] at ec1
                injection ec1 with ec1 elen ec2
                clear elen
                subst ec1 ec2
                have HC1 := Lib.hid (fun W (hW : Fr [] wr W) => hW.cell (k3 n (by rw [HR5.out.len]; exact hn8)) (by simp))
                have HC3 := Lib.hid (fun W (hW : Fr [] wr W) => hW.cell (j3 _ q1) (by simp))
                rw [q3] at HC1
                rw [hw] at HWR
                have kp : (Fx.key x5 n : Int) < x5.pl.length := by omega
                clear h1 h3 j3 k3 q3 hw hw0 HAT
                generalize Fx.key x5 n = kk at *
                have kk0 : (0 : Int) ≤ kk := by omega
                generalize nth x5.pl kk = av at *
                go_wp2_with (go_at_call 19; (with_reducible refine useC HWR.out ?_); rintro e w7 ⟨rfl, hf⟩; have HS7 := Lib.hid (HSj.out.step hf); have z1 := HC1.out w7 hf; have z3 := HC3.out w7 hf; have HF7 := Lib.hid (hFF.out.trans hf); clear hf y0 y1 y2; obtain ⟨y0, y1, y2⟩ := HS7.out.box.cells)
                (refine wp_region_mixq 7 [(true, 0), (true, 1), (true, 2), (true, 3), (true, 4), (true, 5), (true, 6)] (by kernel_rfl) (by kernel_rfl) ?_; simp only [pickOps, List.map_cons, List.map_nil, List.getD_cons_zero, List.getD_cons_succ, List.drop_succ_cons, List.drop_zero]; (iterate 7 (first | (refine wpMix_take (v := ?_) (by rfl) ?_ ?_; rotate_left; (focus (intro W hW; subst hW; go_simp; (try with_reducible rfl); done)); try simp only [Act.put, List.setIfInBounds_toArray, List.set_cons_zero, List.set_cons_succ]) | (refine wpMix_leave (by rfl) ?_; try simp only [Act.put, List.setIfInBounds_toArray, List.set_cons_zero, List.set_cons_succ]))); refine wpMix_nil ?_)
                have HATC := Lib.hid (fd_at w7.drew _ b t5 n (HS7.out.step (Fr.refl [] w7).drew).tab)
                rw [HA.out] at HATC
                go_wp2_with (go_at_call 9; (with_reducible refine useC HATC.out ?_); rintro e w8 ⟨rfl, rfl⟩)
                go_roundw
                case rel => exact ⟨(n : Int) + 1, by omega, by omega, rfl, HF7.out.drew⟩
                case measure => simp [intOf]; omega
              · have HA : Hid (Fd.at_ t5 fd = -1) := by
                  show _ = _
                  rw [← HAT.out]
                  unfold Fx.at_
                  rw [if_neg hw]
                generalize Fx.wrong x5 fd = wc at *
                clear HAT
                go_wp2_with (first
                  | (go_at_call 19; (with_reducible refine useC HWR.out ?_); rintro e w7 ⟨rfl, hf⟩; have HS7 := Lib.hid (HSj.out.step hf); have HF7 := Lib.hid (hFF.out.trans hf); have HATC := Lib.hid (fd_at w7 _ b t5 fd HS7.out.tab); rw [HA.out] at HATC; clear hf)
                  | (go_at_call 9; (with_reducible refine useC HATC.out ?_); rintro e w8 ⟨rfl, rfl⟩))
                go_roundw
                case rel => exact ⟨fd + 1, by omega, by omega, rfl, HF7⟩
                case measure => simp [intOf]; omega
            · have HSE := Lib.hid (HS6.out.step hFF.out)
              go_wp2
              go_roundw
              case rel => exact ⟨k + 1, by omega, by omega, by go_num, _, _, _, _, _, _, t5, fs5, x5, HSE, HR5, HO5, HL5⟩
              case measure => simp [intOf]; omega
        · by_cases hl3 : (nthR ls k).length = 3
          · skip
            obtain rfl := hA' (by omega)
            have c0 := hc' 0 (by omega)
            rw [Nat.add_zero] at c0
            have HC0 := Lib.hid (fun W (hW : Fr [] w W) => hW.cell c0 (by simp))
            clear c0
            rw [hl3] at hcell
            clear hc' hA'
            generalize nth (nthR ls k) 0 = y0 at *
            have HWX := Lib.hid (fx_Wrong wr.drew _ _ x y0 HSD.out.val H8.out)
            obtain ⟨x5, hx5⟩ : ∃ z : Fx.X, z = Fx.close x y0 := ⟨_, rfl⟩
            have HFO : Hid (∀ w3 v1 v2 v3, FdS w w3 b X t fs v1 v2 v3 x5 → Calls Tryd.prog 13 #[.pointer (some ⟨b, 0, none⟩), .int .i64 y0] w3 (FdPostE w b X v1 v2 v3 x5 k (Fx.wrong x y0))) := fun w3 v1 v2 v3 h => fdp_close h hR.out hO.out hL.out y0 hx5
            by_cases hw : Fx.wrong x y0 = 0
            · have hw0 := Fx.wrong_in hw
              obtain ⟨m8, rfl⟩ : ∃ n : Nat, y0 = n := ⟨y0.toNat, by omega⟩
              have hm8 : m8 < 8 := by omega
              have m0 : (0 : Int) ≤ m8 := by omega
              have e5 : x5 = ⟨x.of_.set m8 (-1), x.sz, x.pl⟩ := by rw [hx5]; unfold Fx.close; rw [if_pos hw]; rfl
              have HSET : Hid (∀ W, FdS w W b X t fs (.slice A1 8 c1) (.slice A2 x.sz.length c2) (.slice A3 x.pl.length c3) x → Calls Tryd.prog 20 #[.slice A1 8 c1, .int .i64 m8, .int .i64 (-1)] W fun e w4 => ∃ A m, e = .returned (.slice A 8 m) ∧ FxX w4 X (.slice A1 8 c1) (.slice A2 x.sz.length c2) (.slice A3 x.pl.length c3) ∧ FdS w (w4.setCell ⟨X, 0, none⟩ (.slice A 8 m)) b X t fs (.slice A 8 m) (.slice A2 x5.sz.length c2) (.slice A3 x5.pl.length c3) x5) := fun W h => by
                obtain ⟨r1, r2, r3, e0, ⟨g1, -, h1⟩, -, -, -⟩ := h.val
                injection e0 with e0
                injection e0 with e0
                injection e0 with e1 e0
                subst e1
                clear e0
                refine (set_any W _ g1 x.of_ m8 (-1) h1 (by rw [H8.out]; exact hm8) (by rw [H8.out]; decide)).mono fun e w4 hn => ?_
                obtain ⟨A, m, q1, q2, q3⟩ := h.setOf (by rw [List.length_set]; exact H8.out) hn
                exact ⟨A, m, q1, q2, by rw [e5]; exact q3⟩
              rw [hw] at HWX HFO
              clear hw hw0 hx5 e5
              go_wp2_with fail
              have c0 := HC0.out wr hS.out.fr
              (refine wp_region_mixq 4 [(true, 0), (true, 1), (true, 2), (true, 3)] (by kernel_rfl) (by kernel_rfl) ?_; simp only [pickOps, List.map_cons, List.map_nil, List.getD_cons_zero, List.getD_cons_succ, List.drop_succ_cons, List.drop_zero]; (iterate 4 (first | (refine wpMix_take (v := ?_) (by rfl) ?_ ?_; rotate_left; (focus (intro W hW; subst hW; go_simp; (try with_reducible rfl); done)); try simp only [Act.put, List.setIfInBounds_toArray, List.set_cons_zero, List.set_cons_succ]) | (refine wpMix_leave (by rfl) ?_; try simp only [Act.put, List.setIfInBounds_toArray, List.set_cons_zero, List.set_cons_succ]))); refine wpMix_nil ?_)
              clear c0
              go_wp2_with (go_at_call 19; (with_reducible refine useC HWX.out ?_); rintro e w2 ⟨rfl, hf2⟩; have HS2 := Lib.hid (HSD.out.step hf2); have HST2 := Lib.hid (HSET.out w2.drew (HS2.out.step (Fr.refl [] w2).drew)); clear x0 x1 x2 hf2; obtain ⟨x0, x1, x2⟩ := HS2.out.box.cells; have c0 := HC0.out w2 HS2.out.fr)
              (refine wp_region_mixq 5 [(true, 0), (true, 1), (true, 2), (true, 3), (true, 4)] (by kernel_rfl) (by kernel_rfl) ?_; simp only [pickOps, List.map_cons, List.map_nil, List.getD_cons_zero, List.getD_cons_succ, List.drop_succ_cons, List.drop_zero]; (iterate 5 (first | (refine wpMix_take (v := ?_) (by rfl) ?_ ?_; rotate_left; (focus (intro W hW; subst hW; go_simp; (try with_reducible rfl); done)); try simp only [Act.put, List.setIfInBounds_toArray, List.set_cons_zero, List.set_cons_succ]) | (refine wpMix_leave (by rfl) ?_; try simp only [Act.put, List.setIfInBounds_toArray, List.set_cons_zero, List.set_cons_succ]))); refine wpMix_nil ?_)
              clear c0 x0 x1 x2
              go_wp2_with (first
                | (go_at_call 20; (with_reducible refine useC HST2.out ?_); rintro e w4 ⟨A4, c4, rfl, hbx, hs3⟩; have HS3 := Lib.hid hs3; obtain ⟨x0, x1, x2⟩ := hbx.cells; have hfb := free_block hbx 0 none; have c0 := HC0.out _ hs3.fr; have HFO3 := Lib.hid (HFO.out _ _ _ _ hs3); clear hs3 hbx)
                | (go_at_call 13; (with_reducible refine useC HFO3.out ?_); rintro e w5 ⟨rfl, t5, fs5, hs5, hr5, ho5, hl5⟩; have HS5 := Lib.hid hs5; have HR5 := Lib.hid hr5; have HO5 := Lib.hid ho5; have HL5 := Lib.hid hl5; clear hs5 hr5 ho5 hl5 x0 x1 x2 hfb c0))
              clear HFO HFO3 HSET HST2 HC0 HS3 HS2 HSD hS hR hO hL H8 hcell HWX
              go_wp2_with (go_at_call 12; (with_reducible refine useC (error_yes 0 w5 (HE.out w5 HS5.out.fr)) ?_); rintro e w6 ⟨rfl, hf⟩; have HS6 := Lib.hid (HS5.out.step hf); clear hf)
              go_loopw [11] (fun i wr => ∃ fd : Int, -1 ≤ fd ∧ fd ≤ 9 ∧ i = .int .i64 fd ∧ Hid (Fr [] w6 wr)) (fun i _ => (9 - intOf i).toNat)
              case atStart => exact ⟨-1, by decide, by decide, rfl, Fr.refl _ _⟩
              case round =>
                obtain ⟨fd, hfd1, hfd2, rfl, hFF⟩ := hrel
                have HSj := Lib.hid (HS6.out.step hFF.out)
                by_cases hlt' : fd ≤ 8
                · have HWR := Lib.hid (fx_Wrong wr _ _ x5 fd HSj.out.val HR5.out.len)
                  have HAT := Lib.hid (HR5.out.place fd)
                  obtain ⟨y0, y1, y2⟩ := HSj.out.box.cells
                  by_cases hw : Fx.wrong x5 fd = 0
                  · obtain ⟨⟨q1, -⟩, q3, -⟩ := HR5.out.fit HO5.out fd hw
                    have hw0 := Fx.wrong_in hw
                    obtain ⟨n, rfl⟩ : ∃ n : Nat, fd = n := ⟨fd.toNat, by omega⟩
                    rw [Int.toNat_natCast] at q3
                    have hn8 : n < 8 := by omega
                    have n0 : (0 : Int) ≤ n := by omega
                    have n8 : (n : Int) < 8 := by omega
                    have HA : Hid (Fd.at_ t5 n = nth x5.pl (Fx.key x5 n)) := by
                      show _ = _
                      rw [← HAT.out]
                      unfold Fx.at_
                      rw [if_pos hw]
                    obtain ⟨r1, r2, r3, e0, ⟨g1, -, h1⟩, -, h3, -⟩ := HSj.out.val
                    injection e0 with e0
                    injection e0 with e0
                    injection e0 with e1 e0
                    injection e0 with e2 e0
                    injection e0 with e3 _
                    subst e1 e2 e3
                    obtain ⟨g3, cc3, ec3, -, j3⟩ := h3.row (by omega)
                    injection ec3 with ec3 elen ec4
                    clear elen
                    subst ec3 ec4
                    obtain ⟨oo1, cc1, ec1, -, -, k3⟩ := h1.form2 (by rw [HR5.out.len]; decide)
                    rw [HR5.out.len] at ec1
                    injection ec1 with ec1 elen ec2
                    clear elen
                    subst ec1 ec2
                    have HC1 := Lib.hid (fun W (hW : Fr [] wr W) => hW.cell (k3 n (by rw [HR5.out.len]; exact hn8)) (by simp))
                    have HC3 := Lib.hid (fun W (hW : Fr [] wr W) => hW.cell (j3 _ q1) (by simp))
                    rw [q3] at HC1
                    rw [hw] at HWR
                    have kp : (Fx.key x5 n : Int) < x5.pl.length := by omega
                    clear h1 h3 j3 k3 q3 hw hw0 HAT
                    generalize Fx.key x5 n = kk at *
                    have kk0 : (0 : Int) ≤ kk := by omega
                    generalize nth x5.pl kk = av at *
                    go_wp2_with (go_at_call 19; (with_reducible refine useC HWR.out ?_); rintro e w7 ⟨rfl, hf⟩; have HS7 := Lib.hid (HSj.out.step hf); have z1 := HC1.out w7 hf; have z3 := HC3.out w7 hf; have HF7 := Lib.hid (hFF.out.trans hf); clear hf y0 y1 y2; obtain ⟨y0, y1, y2⟩ := HS7.out.box.cells)
                    (refine wp_region_mixq 7 [(true, 0), (true, 1), (true, 2), (true, 3), (true, 4), (true, 5), (true, 6)] (by kernel_rfl) (by kernel_rfl) ?_; simp only [pickOps, List.map_cons, List.map_nil, List.getD_cons_zero, List.getD_cons_succ, List.drop_succ_cons, List.drop_zero]; (iterate 7 (first | (refine wpMix_take (v := ?_) (by rfl) ?_ ?_; rotate_left; (focus (intro W hW; subst hW; go_simp; (try with_reducible rfl); done)); try simp only [Act.put, List.setIfInBounds_toArray, List.set_cons_zero, List.set_cons_succ]) | (refine wpMix_leave (by rfl) ?_; try simp only [Act.put, List.setIfInBounds_toArray, List.set_cons_zero, List.set_cons_succ]))); refine wpMix_nil ?_)
                    have HATC := Lib.hid (fd_at w7.drew _ b t5 n (HS7.out.step (Fr.refl [] w7).drew).tab)
                    rw [HA.out] at HATC
                    go_wp2_with (go_at_call 9; (with_reducible refine useC HATC.out ?_); rintro e w8 ⟨rfl, rfl⟩)
                    go_roundw
                    case rel => exact ⟨(n : Int) + 1, by omega, by omega, rfl, HF7.out.drew⟩
                    case measure => simp [intOf]; omega
                  · have HA : Hid (Fd.at_ t5 fd = -1) := by
                      show _ = _
                      rw [← HAT.out]
                      unfold Fx.at_
                      rw [if_neg hw]
                    generalize Fx.wrong x5 fd = wc at *
                    clear HAT
                    go_wp2_with (first
                      | (go_at_call 19; (with_reducible refine useC HWR.out ?_); rintro e w7 ⟨rfl, hf⟩; have HS7 := Lib.hid (HSj.out.step hf); have HF7 := Lib.hid (hFF.out.trans hf); have HATC := Lib.hid (fd_at w7 _ b t5 fd HS7.out.tab); rw [HA.out] at HATC; clear hf)
                      | (go_at_call 9; (with_reducible refine useC HATC.out ?_); rintro e w8 ⟨rfl, rfl⟩))
                    go_roundw
                    case rel => exact ⟨fd + 1, by omega, by omega, rfl, HF7⟩
                    case measure => simp [intOf]; omega
                · have HSE := Lib.hid (HS6.out.step hFF.out)
                  go_wp2
                  go_roundw
                  case rel => exact ⟨k + 1, by omega, by omega, by go_num, _, _, _, _, _, _, t5, fs5, x5, HSE, HR5, HO5, HL5⟩
                  case measure => simp [intOf]; omega
            · have e5 : x5 = x := by rw [hx5]; unfold Fx.close; rw [if_neg hw]
              subst e5
              clear hx5
              generalize hec : Fx.wrong x5 y0 = ec at *
              clear hec
              go_wp2_with fail
              have c0 := HC0.out wr hS.out.fr
              (refine wp_region_mixq 4 [(true, 0), (true, 1), (true, 2), (true, 3)] (by kernel_rfl) (by kernel_rfl) ?_; simp only [pickOps, List.map_cons, List.map_nil, List.getD_cons_zero, List.getD_cons_succ, List.drop_succ_cons, List.drop_zero]; (iterate 4 (first | (refine wpMix_take (v := ?_) (by rfl) ?_ ?_; rotate_left; (focus (intro W hW; subst hW; go_simp; (try with_reducible rfl); done)); try simp only [Act.put, List.setIfInBounds_toArray, List.set_cons_zero, List.set_cons_succ]) | (refine wpMix_leave (by rfl) ?_; try simp only [Act.put, List.setIfInBounds_toArray, List.set_cons_zero, List.set_cons_succ]))); refine wpMix_nil ?_)
              clear c0
              go_wp2_with (first
                | (go_at_call 19; (with_reducible refine useC HWX.out ?_); rintro e w2 ⟨rfl, hf2⟩; have HS2 := Lib.hid (HSD.out.step hf2); have HFO3 := Lib.hid (HFO.out w2 _ _ _ HS2.out); clear x0 x1 x2 hf2; have c0 := HC0.out w2 HS2.out.fr)
                | (go_at_call 13; (with_reducible refine useC HFO3.out ?_); rintro e w5 ⟨rfl, t5, fs5, hs5, hr5, ho5, hl5⟩; have HS5 := Lib.hid hs5; have HR5 := Lib.hid hr5; have HO5 := Lib.hid ho5; have HL5 := Lib.hid hl5; clear hs5 hr5 ho5 hl5 c0))
              clear HFO HFO3 HC0 HS2 HSD hS hR hO hL H8 hcell HWX
              go_wp2_with (go_at_call 12; (with_reducible refine useC (error_yes ec w5 (HE.out w5 HS5.out.fr)) ?_); rintro e w6 ⟨rfl, hf⟩; have HS6 := Lib.hid (HS5.out.step hf); clear hf)
              go_loopw [11] (fun i wr => ∃ fd : Int, -1 ≤ fd ∧ fd ≤ 9 ∧ i = .int .i64 fd ∧ Hid (Fr [] w6 wr)) (fun i _ => (9 - intOf i).toNat)
              case atStart => exact ⟨-1, by decide, by decide, rfl, Fr.refl _ _⟩
              case round =>
                obtain ⟨fd, hfd1, hfd2, rfl, hFF⟩ := hrel
                have HSj := Lib.hid (HS6.out.step hFF.out)
                by_cases hlt' : fd ≤ 8
                · have HWR := Lib.hid (fx_Wrong wr _ _ x5 fd HSj.out.val HR5.out.len)
                  have HAT := Lib.hid (HR5.out.place fd)
                  obtain ⟨y0, y1, y2⟩ := HSj.out.box.cells
                  by_cases hw : Fx.wrong x5 fd = 0
                  · obtain ⟨⟨q1, -⟩, q3, -⟩ := HR5.out.fit HO5.out fd hw
                    have hw0 := Fx.wrong_in hw
                    obtain ⟨n, rfl⟩ : ∃ n : Nat, fd = n := ⟨fd.toNat, by omega⟩
                    rw [Int.toNat_natCast] at q3
                    have hn8 : n < 8 := by omega
                    have n0 : (0 : Int) ≤ n := by omega
                    have n8 : (n : Int) < 8 := by omega
                    have HA : Hid (Fd.at_ t5 n = nth x5.pl (Fx.key x5 n)) := by
                      show _ = _
                      rw [← HAT.out]
                      unfold Fx.at_
                      rw [if_pos hw]
                    obtain ⟨r1, r2, r3, e0, ⟨g1, -, h1⟩, -, h3, -⟩ := HSj.out.val
                    injection e0 with e0
                    injection e0 with e0
                    injection e0 with e1 e0
                    injection e0 with e2 e0
                    injection e0 with e3 _
                    subst e1 e2 e3
                    obtain ⟨g3, cc3, ec3, -, j3⟩ := h3.row (by omega)
                    injection ec3 with ec3 elen ec4
                    clear elen
                    subst ec3 ec4
                    obtain ⟨oo1, cc1, ec1, -, -, k3⟩ := h1.form2 (by rw [HR5.out.len]; decide)
                    rw [HR5.out.len] at ec1
                    injection ec1 with ec1 elen ec2
                    clear elen
                    subst ec1 ec2
                    have HC1 := Lib.hid (fun W (hW : Fr [] wr W) => hW.cell (k3 n (by rw [HR5.out.len]; exact hn8)) (by simp))
                    have HC3 := Lib.hid (fun W (hW : Fr [] wr W) => hW.cell (j3 _ q1) (by simp))
                    rw [q3] at HC1
                    rw [hw] at HWR
                    have kp : (Fx.key x5 n : Int) < x5.pl.length := by omega
                    clear h1 h3 j3 k3 q3 hw hw0 HAT
                    generalize Fx.key x5 n = kk at *
                    have kk0 : (0 : Int) ≤ kk := by omega
                    generalize nth x5.pl kk = av at *
                    go_wp2_with (go_at_call 19; (with_reducible refine useC HWR.out ?_); rintro e w7 ⟨rfl, hf⟩; have HS7 := Lib.hid (HSj.out.step hf); have z1 := HC1.out w7 hf; have z3 := HC3.out w7 hf; have HF7 := Lib.hid (hFF.out.trans hf); clear hf y0 y1 y2; obtain ⟨y0, y1, y2⟩ := HS7.out.box.cells)
                    (refine wp_region_mixq 7 [(true, 0), (true, 1), (true, 2), (true, 3), (true, 4), (true, 5), (true, 6)] (by kernel_rfl) (by kernel_rfl) ?_; simp only [pickOps, List.map_cons, List.map_nil, List.getD_cons_zero, List.getD_cons_succ, List.drop_succ_cons, List.drop_zero]; (iterate 7 (first | (refine wpMix_take (v := ?_) (by rfl) ?_ ?_; rotate_left; (focus (intro W hW; subst hW; go_simp; (try with_reducible rfl); done)); try simp only [Act.put, List.setIfInBounds_toArray, List.set_cons_zero, List.set_cons_succ]) | (refine wpMix_leave (by rfl) ?_; try simp only [Act.put, List.setIfInBounds_toArray, List.set_cons_zero, List.set_cons_succ]))); refine wpMix_nil ?_)
                    have HATC := Lib.hid (fd_at w7.drew _ b t5 n (HS7.out.step (Fr.refl [] w7).drew).tab)
                    rw [HA.out] at HATC
                    go_wp2_with (go_at_call 9; (with_reducible refine useC HATC.out ?_); rintro e w8 ⟨rfl, rfl⟩)
                    go_roundw
                    case rel => exact ⟨(n : Int) + 1, by omega, by omega, rfl, HF7.out.drew⟩
                    case measure => simp [intOf]; omega
                  · have HA : Hid (Fd.at_ t5 fd = -1) := by
                      show _ = _
                      rw [← HAT.out]
                      unfold Fx.at_
                      rw [if_neg hw]
                    generalize Fx.wrong x5 fd = wc at *
                    clear HAT
                    go_wp2_with (first
                      | (go_at_call 19; (with_reducible refine useC HWR.out ?_); rintro e w7 ⟨rfl, hf⟩; have HS7 := Lib.hid (HSj.out.step hf); have HF7 := Lib.hid (hFF.out.trans hf); have HATC := Lib.hid (fd_at w7 _ b t5 fd HS7.out.tab); rw [HA.out] at HATC; clear hf)
                      | (go_at_call 9; (with_reducible refine useC HATC.out ?_); rintro e w8 ⟨rfl, rfl⟩))
                    go_roundw
                    case rel => exact ⟨fd + 1, by omega, by omega, rfl, HF7⟩
                    case measure => simp [intOf]; omega
                · have HSE := Lib.hid (HS6.out.step hFF.out)
                  go_wp2
                  go_roundw
                  case rel => exact ⟨k + 1, by omega, by omega, by go_num, _, _, _, _, _, _, t5, fs5, x5, HSE, HR5, HO5, HL5⟩
                  case measure => simp [intOf]; omega
          · by_cases hl4 : (nthR ls k).length = 4
            · skip
              obtain rfl := hA' (by omega)
              have c0 := hc' 0 (by omega)
              rw [Nat.add_zero] at c0
              have HC0 := Lib.hid (fun W (hW : Fr [] w W) => hW.cell c0 (by simp))
              clear c0
              have cc1 := hc' 1 (by omega)
              have HC1 := Lib.hid (fun W (hW : Fr [] w W) => hW.cell cc1 (by simp))
              clear cc1
              generalize nth (nthR ls k) 1 = y1 at *
              rw [hl4] at hcell
              clear hc' hA'
              generalize nth (nthR ls k) 0 = y0 at *
              obtain ⟨⟨x5, n5, ec⟩, hr5⟩ : ∃ r, r = Fx.move x y0 y1 := ⟨_, rfl⟩
              have HX8 : Hid (x5.of_.length = 8) := by
                show _ = _
                have h := Fx.move_len x y0 y1
                rw [← hr5] at h
                exact h.trans H8.out
              have HCX : Hid (Calls Tryd.prog 21 #[.agg #[.slice A1 8 c1, .slice A2 x.sz.length c2, .slice A3 x.pl.length c3], .int .i64 y0, .int .i64 y1] wr.drew fun e w' => ∃ v, e = .returned (.tuple #[v, .int .i64 n5, .int .i64 ec]) ∧ FxV (FdG w b X fs) w' v x5 ∧ FrP (FdG w b X fs) wr.drew w') := by
                have h := fx_Move wr.drew _ _ x y0 y1 HSD.out.val H8.out (hR.out.fit hO.out y0) (by omega) HSD.out.new
                rw [← hr5] at h
                exact h
              have HFO : Hid (∀ w3 v1 v2 v3, FdS w w3 b X t fs v1 v2 v3 x5 → Calls Tryd.prog 22 #[.pointer (some ⟨b, 0, none⟩), .int .i64 y0, .int .i64 y1] w3 (FdPost w b X v1 v2 v3 x5 k n5 ec)) := fun w3 v1 v2 v3 h => by
                have h' := fdp_move h hR.out hO.out hL.out y0 y1 (by rw [← hr5])
                rw [← hr5] at h'
                exact h'
              clear hr5
              go_wp2_with fail
              (refine wp_region_mix (Fr [] w ·) 14 [(true, 1), (true, 2), (true, 3), (true, 4), (true, 5), (true, 6), (false, 0), (false, 7), (true, 8), (true, 9), (true, 10), (true, 11), (false, 12), (false, 13)] (by kernel_rfl) (by kernel_rfl) (hS.out.fr.drew) ?_; simp only [pickOps, List.map_cons, List.map_nil, List.getD_cons_zero, List.getD_cons_succ, List.drop_succ_cons, List.drop_zero])
              (iterate 6 (first | (refine wpMix_take (v := ?_) (by rfl) ?_ ?_; rotate_left; (focus (intro W hW; (have c0 := HC0.out W hW; have cc1 := HC1.out W hW); go_simp; (try with_reducible rfl); done)); try simp only [Act.put, List.setIfInBounds_toArray, List.set_cons_zero, List.set_cons_succ]) | (refine wpMix_leave (by rfl) ?_; try simp only [Act.put, List.setIfInBounds_toArray, List.set_cons_zero, List.set_cons_succ])))
              refine wpMix_walk ?_
              go_wp2
              refine MixQ.mk (HSD.out.fr) ?_
              refine wpMix_walk ?_
              go_wp2_with (go_at_call 21; (with_reducible refine useC HCX.out ?_); rintro e w2 ⟨v2, rfl, hv2, hf2⟩; obtain ⟨a4, a5, a6, rfl, ⟨A4, c4, h4⟩, ⟨A5, c5, rfl⟩, ⟨A6, c6, rfl⟩, hb2, hfr2, hS3⟩ := HSD.out.put hf2 hv2; rw [HX8.out] at h4; subst h4; have HS3 := Lib.hid hS3; have HFR2 := Lib.hid hfr2; have HB2 := Lib.hid hb2; clear hS3 hv2 hf2 hb2 hfr2)
              refine MixQ.mk (HFR2.out) ?_
              (iterate 4 (first | (refine wpMix_take (v := ?_) (by rfl) ?_ ?_; rotate_left; (focus (intro W hW; skip; go_simp; (try with_reducible rfl); done)); try simp only [Act.put, List.setIfInBounds_toArray, List.set_cons_zero, List.set_cons_succ]) | (refine wpMix_leave (by rfl) ?_; try simp only [Act.put, List.setIfInBounds_toArray, List.set_cons_zero, List.set_cons_succ])))
              refine wpMix_walk ?_
              clear x0 x1 x2
              obtain ⟨x0, x1, x2⟩ := HB2.out.cells
              have hfz := fun i => free_block HB2.out i none
              go_wp2
              refine MixQ.mk (HS3.out.fr) ?_
              refine wpMix_walk ?_
              go_wp2
              refine MixQ.mk (HS3.out.fr) ?_
              refine wpMix_nil ?_
              clear x0 x1 x2 hfz HCX HB2 HFR2
              generalize ((w2.setCell ⟨X, 0, none⟩ (.slice A4 8 c4)).setCell ⟨X, 1, none⟩ (.slice A5 x5.sz.length c5)).setCell ⟨X, 2, none⟩ (.slice A6 x5.pl.length c6) = w3 at *
              have HS3d := Lib.hid (HS3.out.step (Fr.refl [] w3).drew)
              have HFO3 := Lib.hid (HFO.out w3.drew _ _ _ HS3d.out)
              go_wp2_with fail
              (refine wp_region_mix (Fr [] w ·) 12 [(true, 0), (true, 1), (true, 2), (true, 3), (true, 4), (true, 5), (true, 6), (false, 7), (true, 8), (true, 9), (true, 10), (false, 11)] (by kernel_rfl) (by kernel_rfl) (HS3d.out.fr) ?_; simp only [pickOps, List.map_cons, List.map_nil, List.getD_cons_zero, List.getD_cons_succ, List.drop_succ_cons, List.drop_zero])
              (iterate 7 (first | (refine wpMix_take (v := ?_) (by rfl) ?_ ?_; rotate_left; (focus (intro W hW; (have c0 := HC0.out W hW; have cc1 := HC1.out W hW); go_simp; (try with_reducible rfl); done)); try simp only [Act.put, List.setIfInBounds_toArray, List.set_cons_zero, List.set_cons_succ]) | (refine wpMix_leave (by rfl) ?_; try simp only [Act.put, List.setIfInBounds_toArray, List.set_cons_zero, List.set_cons_succ])))
              refine wpMix_walk ?_
              go_wp2_with (go_at_call 22; (with_reducible refine useC HFO3.out ?_); rintro e w5 ⟨rfl, t5, fs5, hs5, hr5, ho5, hl5⟩; have HS5 := Lib.hid hs5; have HR5 := Lib.hid hr5; have HO5 := Lib.hid ho5; have HL5 := Lib.hid hl5; clear hs5 hr5 ho5 hl5)
              refine MixQ.mk (HS5.out.fr) ?_
              (iterate 3 (first | (refine wpMix_take (v := ?_) (by rfl) ?_ ?_; rotate_left; (focus (intro W hW; skip; go_simp; (try with_reducible rfl); done)); try simp only [Act.put, List.setIfInBounds_toArray, List.set_cons_zero, List.set_cons_succ]) | (refine wpMix_leave (by rfl) ?_; try simp only [Act.put, List.setIfInBounds_toArray, List.set_cons_zero, List.set_cons_succ])))
              refine wpMix_walk ?_
              go_wp2
              refine MixQ.mk (HS5.out.fr) ?_
              refine wpMix_nil ?_
              clear HFO HFO3 HC0 HC1 HS3 HS3d HSD hS hR hO hL H8 HX8 hcell
              go_wp2_with (go_at_call 12; (with_reducible refine useC (error_yes ec w5 (HE.out w5 HS5.out.fr)) ?_); rintro e w6 ⟨rfl, hf⟩; have HS6 := Lib.hid (HS5.out.step hf); clear hf)
              go_loopw [11] (fun i wr => ∃ fd : Int, -1 ≤ fd ∧ fd ≤ 9 ∧ i = .int .i64 fd ∧ Hid (Fr [] w6 wr)) (fun i _ => (9 - intOf i).toNat)
              case atStart => exact ⟨-1, by decide, by decide, rfl, Fr.refl _ _⟩
              case round =>
                obtain ⟨fd, hfd1, hfd2, rfl, hFF⟩ := hrel
                have HSj := Lib.hid (HS6.out.step hFF.out)
                by_cases hlt' : fd ≤ 8
                · have HWR := Lib.hid (fx_Wrong wr _ _ x5 fd HSj.out.val HR5.out.len)
                  have HAT := Lib.hid (HR5.out.place fd)
                  obtain ⟨y0, y1, y2⟩ := HSj.out.box.cells
                  by_cases hw : Fx.wrong x5 fd = 0
                  · obtain ⟨⟨q1, -⟩, q3, -⟩ := HR5.out.fit HO5.out fd hw
                    have hw0 := Fx.wrong_in hw
                    obtain ⟨n, rfl⟩ : ∃ n : Nat, fd = n := ⟨fd.toNat, by omega⟩
                    rw [Int.toNat_natCast] at q3
                    have hn8 : n < 8 := by omega
                    have n0 : (0 : Int) ≤ n := by omega
                    have n8 : (n : Int) < 8 := by omega
                    have HA : Hid (Fd.at_ t5 n = nth x5.pl (Fx.key x5 n)) := by
                      show _ = _
                      rw [← HAT.out]
                      unfold Fx.at_
                      rw [if_pos hw]
                    obtain ⟨r1, r2, r3, e0, ⟨g1, -, h1⟩, -, h3, -⟩ := HSj.out.val
                    injection e0 with e0
                    injection e0 with e0
                    injection e0 with e1 e0
                    injection e0 with e2 e0
                    injection e0 with e3 _
                    subst e1 e2 e3
                    obtain ⟨g3, cc3, ec3, -, j3⟩ := h3.row (by omega)
                    injection ec3 with ec3 elen ec4
                    clear elen
                    subst ec3 ec4
                    obtain ⟨oo1, cc1, ec1, -, -, k3⟩ := h1.form2 (by rw [HR5.out.len]; decide)
                    rw [HR5.out.len] at ec1
                    injection ec1 with ec1 elen ec2
                    clear elen
                    subst ec1 ec2
                    have HC1 := Lib.hid (fun W (hW : Fr [] wr W) => hW.cell (k3 n (by rw [HR5.out.len]; exact hn8)) (by simp))
                    have HC3 := Lib.hid (fun W (hW : Fr [] wr W) => hW.cell (j3 _ q1) (by simp))
                    rw [q3] at HC1
                    rw [hw] at HWR
                    have kp : (Fx.key x5 n : Int) < x5.pl.length := by omega
                    clear h1 h3 j3 k3 q3 hw hw0 HAT
                    generalize Fx.key x5 n = kk at *
                    have kk0 : (0 : Int) ≤ kk := by omega
                    generalize nth x5.pl kk = av at *
                    go_wp2_with (go_at_call 19; (with_reducible refine useC HWR.out ?_); rintro e w7 ⟨rfl, hf⟩; have HS7 := Lib.hid (HSj.out.step hf); have z1 := HC1.out w7 hf; have z3 := HC3.out w7 hf; have HF7 := Lib.hid (hFF.out.trans hf); clear hf y0 y1 y2; obtain ⟨y0, y1, y2⟩ := HS7.out.box.cells)
                    (refine wp_region_mixq 7 [(true, 0), (true, 1), (true, 2), (true, 3), (true, 4), (true, 5), (true, 6)] (by kernel_rfl) (by kernel_rfl) ?_; simp only [pickOps, List.map_cons, List.map_nil, List.getD_cons_zero, List.getD_cons_succ, List.drop_succ_cons, List.drop_zero]; (iterate 7 (first | (refine wpMix_take (v := ?_) (by rfl) ?_ ?_; rotate_left; (focus (intro W hW; subst hW; go_simp; (try with_reducible rfl); done)); try simp only [Act.put, List.setIfInBounds_toArray, List.set_cons_zero, List.set_cons_succ]) | (refine wpMix_leave (by rfl) ?_; try simp only [Act.put, List.setIfInBounds_toArray, List.set_cons_zero, List.set_cons_succ]))); refine wpMix_nil ?_)
                    have HATC := Lib.hid (fd_at w7.drew _ b t5 n (HS7.out.step (Fr.refl [] w7).drew).tab)
                    rw [HA.out] at HATC
                    go_wp2_with (go_at_call 9; (with_reducible refine useC HATC.out ?_); rintro e w8 ⟨rfl, rfl⟩)
                    go_roundw
                    case rel => exact ⟨(n : Int) + 1, by omega, by omega, rfl, HF7.out.drew⟩
                    case measure => simp [intOf]; omega
                  · have HA : Hid (Fd.at_ t5 fd = -1) := by
                      show _ = _
                      rw [← HAT.out]
                      unfold Fx.at_
                      rw [if_neg hw]
                    generalize Fx.wrong x5 fd = wc at *
                    clear HAT
                    go_wp2_with (first
                      | (go_at_call 19; (with_reducible refine useC HWR.out ?_); rintro e w7 ⟨rfl, hf⟩; have HS7 := Lib.hid (HSj.out.step hf); have HF7 := Lib.hid (hFF.out.trans hf); have HATC := Lib.hid (fd_at w7 _ b t5 fd HS7.out.tab); rw [HA.out] at HATC; clear hf)
                      | (go_at_call 9; (with_reducible refine useC HATC.out ?_); rintro e w8 ⟨rfl, rfl⟩))
                    go_roundw
                    case rel => exact ⟨fd + 1, by omega, by omega, rfl, HF7⟩
                    case measure => simp [intOf]; omega
                · have HSE := Lib.hid (HS6.out.step hFF.out)
                  go_wp2
                  go_roundw
                  case rel => exact ⟨k + 1, by omega, by omega, by go_num, _, _, _, _, _, _, t5, fs5, x5, HSE, HR5, HO5, HL5⟩
                  case measure => simp [intOf]; omega
            · skip
              have t1 : (((nthR ls k).length : Int) == 1) = false := by simp; omega
              have t2 : (((nthR ls k).length : Int) == 2) = false := by simp; omega
              have t3 : (((nthR ls k).length : Int) == 3) = false := by simp; omega
              have t4 : (((nthR ls k).length : Int) == 4) = false := by simp; omega
              clear hc' hA' x0 x1 x2 hl1 hl2 hl3 hl4
              go_wp2_with fail
              obtain ⟨w5, hw5⟩ : ∃ z, z = wr := ⟨_, rfl⟩
              subst hw5
              have HL5 : Hid (fs.length ≤ k + 1) := Nat.le_succ_of_le hL.out
              have HER : Hid (Calls Tryd.prog 12 #[.nilIface, .int .i64 0] w5 (OkT w5)) := error_yes 0 w5 (HE.out w5 hS.out.fr)
              clear HSD H8 hcell t1 t2 t3 t4
              go_wp2_with (go_at_call 12; (with_reducible refine useC HER.out ?_); rintro e w6 ⟨rfl, hf⟩; have HS6 := Lib.hid (hS.out.step hf); clear hf)
              go_loopw [11] (fun i wr => ∃ fd : Int, -1 ≤ fd ∧ fd ≤ 9 ∧ i = .int .i64 fd ∧ Hid (Fr [] w6 wr)) (fun i _ => (9 - intOf i).toNat)
              case atStart => exact ⟨-1, by decide, by decide, rfl, Fr.refl _ _⟩
              case round =>
                obtain ⟨fd, hfd1, hfd2, rfl, hFF⟩ := hrel
                have HSj := Lib.hid (HS6.out.step hFF.out)
                by_cases hlt' : fd ≤ 8
                · have HWR := Lib.hid (fx_Wrong wr _ _ x fd HSj.out.val hR.out.len)
                  have HAT := Lib.hid (hR.out.place fd)
                  obtain ⟨y0, y1, y2⟩ := HSj.out.box.cells
                  by_cases hw : Fx.wrong x fd = 0
                  · obtain ⟨⟨q1, -⟩, q3, -⟩ := hR.out.fit hO.out fd hw
                    have hw0 := Fx.wrong_in hw
                    obtain ⟨n, rfl⟩ : ∃ n : Nat, fd = n := ⟨fd.toNat, by omega⟩
                    rw [Int.toNat_natCast] at q3
                    have hn8 : n < 8 := by omega
                    have n0 : (0 : Int) ≤ n := by omega
                    have n8 : (n : Int) < 8 := by omega
                    have HA : Hid (Fd.at_ t n = nth x.pl (Fx.key x n)) := by
                      show _ = _
                      rw [← HAT.out]
                      unfold Fx.at_
                      rw [if_pos hw]
                    obtain ⟨r1, r2, r3, e0, ⟨g1, -, h1⟩, -, h3, -⟩ := HSj.out.val
                    injection e0 with e0
                    injection e0 with e0
                    injection e0 with e1 e0
                    injection e0 with e2 e0
                    injection e0 with e3 _
                    subst e1 e2 e3
                    obtain ⟨g3, cc3, ec3, -, j3⟩ := h3.row (by omega)
                    injection ec3 with ec3 elen ec4
                    clear elen
                    subst ec3 ec4
                    obtain ⟨oo1, cc1, ec1, -, -, k3⟩ := h1.form2 (by rw [hR.out.len]; decide)
                    rw [hR.out.len] at ec1
                    injection ec1 with ec1 elen ec2
                    clear elen
                    subst ec1 ec2
                    have HC1 := Lib.hid (fun W (hW : Fr [] wr W) => hW.cell (k3 n (by rw [hR.out.len]; exact hn8)) (by simp))
                    have HC3 := Lib.hid (fun W (hW : Fr [] wr W) => hW.cell (j3 _ q1) (by simp))
                    rw [q3] at HC1
                    rw [hw] at HWR
                    have kp : (Fx.key x n : Int) < x.pl.length := by omega
                    clear h1 h3 j3 k3 q3 hw hw0 HAT
                    generalize Fx.key x n = kk at *
                    have kk0 : (0 : Int) ≤ kk := by omega
                    generalize nth x.pl kk = av at *
                    go_wp2_with (go_at_call 19; (with_reducible refine useC HWR.out ?_); rintro e w7 ⟨rfl, hf⟩; have HS7 := Lib.hid (HSj.out.step hf); have z1 := HC1.out w7 hf; have z3 := HC3.out w7 hf; have HF7 := Lib.hid (hFF.out.trans hf); clear hf y0 y1 y2; obtain ⟨y0, y1, y2⟩ := HS7.out.box.cells)
                    (refine wp_region_mixq 7 [(true, 0), (true, 1), (true, 2), (true, 3), (true, 4), (true, 5), (true, 6)] (by kernel_rfl) (by kernel_rfl) ?_; simp only [pickOps, List.map_cons, List.map_nil, List.getD_cons_zero, List.getD_cons_succ, List.drop_succ_cons, List.drop_zero]; (iterate 7 (first | (refine wpMix_take (v := ?_) (by rfl) ?_ ?_; rotate_left; (focus (intro W hW; subst hW; go_simp; (try with_reducible rfl); done)); try simp only [Act.put, List.setIfInBounds_toArray, List.set_cons_zero, List.set_cons_succ]) | (refine wpMix_leave (by rfl) ?_; try simp only [Act.put, List.setIfInBounds_toArray, List.set_cons_zero, List.set_cons_succ]))); refine wpMix_nil ?_)
                    have HATC := Lib.hid (fd_at w7.drew _ b t n (HS7.out.step (Fr.refl [] w7).drew).tab)
                    rw [HA.out] at HATC
                    go_wp2_with (go_at_call 9; (with_reducible refine useC HATC.out ?_); rintro e w8 ⟨rfl, rfl⟩)
                    go_roundw
                    case rel => exact ⟨(n : Int) + 1, by omega, by omega, rfl, HF7.out.drew⟩
                    case measure => simp [intOf]; omega
                  · have HA : Hid (Fd.at_ t fd = -1) := by
                      show _ = _
                      rw [← HAT.out]
                      unfold Fx.at_
                      rw [if_neg hw]
                    generalize Fx.wrong x fd = wc at *
                    clear HAT
                    go_wp2_with (first
                      | (go_at_call 19; (with_reducible refine useC HWR.out ?_); rintro e w7 ⟨rfl, hf⟩; have HS7 := Lib.hid (HSj.out.step hf); have HF7 := Lib.hid (hFF.out.trans hf); have HATC := Lib.hid (fd_at w7 _ b t fd HS7.out.tab); rw [HA.out] at HATC; clear hf)
                      | (go_at_call 9; (with_reducible refine useC HATC.out ?_); rintro e w8 ⟨rfl, rfl⟩))
                    go_roundw
                    case rel => exact ⟨fd + 1, by omega, by omega, rfl, HF7⟩
                    case measure => simp [intOf]; omega
                · have HSE := Lib.hid (HS6.out.step hFF.out)
                  go_wp2
                  go_roundw
                  case rel => exact ⟨k + 1, by omega, by omega, by go_num, _, _, _, _, _, _, t, fs, x, HSE, hR, hO, HL5⟩
                  case measure => simp [intOf]; omega
    · have hout : ¬ (k : Int) < ls.length ∨ ((k : Int) < ls.length ∧ ¬ (k : Int) < 60) := by omega
      rcases hout with hout | ⟨hout, hout'⟩
      all_goals
        go_wp2
        go_ret
        exact ⟨rfl, hS.out.fr⟩
end Go.Proofs.YtmgalnkcpolafaaDoor
