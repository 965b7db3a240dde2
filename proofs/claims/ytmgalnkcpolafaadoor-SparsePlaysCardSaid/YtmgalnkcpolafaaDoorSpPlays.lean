/- SparsePlays: any file, and anything that is done with it. -/
import Derived.Test.YtmgalnkcpolafaaDoorSpPlays0
import Derived.Test.YtmgalnkcpolafaaDoorCInts
import Derived.Test.YtmgalnkcpolafaaDoorCIn2
import Derived.Test.YtmgalnkcpolafaaDoorMix
import Derived.Test.YtmgalnkcpolafaaDoorRw2
import Derived.Test.YtmgalnkcpolafaaDoorErr2
namespace Go.Proofs.YtmgalnkcpolafaaDoor
open Go.RowKit

theorem error_same1 (c : Int) (w : World) (hg : ErrType w) : Calls Tryd.prog 12 #[.iface 69 (.int .i64 c), .int .i64 c] w (OkT w) :=
  (error_at c c w hg).mono fun _ _ ⟨h1, h2⟩ => ⟨by rw [h1]; simp, h2⟩
set_option maxRecDepth 100000 in
set_option maxHeartbeats 8000000 in
theorem sp_plays (w : World) (v : Value) (ls : List (List Int)) (a n : Int) (hR : Rw w.heap.size w v ls) (hE : ErrType w) :
    Calls Tryd.prog 5 #[v, .int .i64 a, .int .i64 n] w (OkT w) := by
  have HE := Lib.hid (fun W (hW : Fr [] w W) => hE.fr hW (by simp))
  obtain ⟨A, g, o, c, rfl, hm, hF⟩ := hR
  have HF := Lib.hid hF
  clear hF hE
  go_enter Tryd.func5, Tryd.ntmps5
  go_wp2_with (first
    | (go_at_call 23; (with_reducible refine useC (sp_new w) ?_); rintro e w0 ⟨rfl, hs, hf⟩; have HS0 := Lib.hid hs; have HF0 := Lib.hid hf; clear hs hf)
    | (go_at_call 24; (with_reducible refine useC (sr_New w0) ?_); rintro e w1 ⟨v, rfl, hv, hf⟩; obtain ⟨A1, c1, A2, c2, rfl, hS⟩ := SpS.start HS0.out HF0.out hv hf; have HS := Lib.hid hS; have HZ : Hid (w.heap.size ≤ w1.heap.size) := Nat.le_trans HF0.out.size hf.size; clear hv hf hS HS0 HF0))
  generalize w.heap.size + 1 = b at *
  obtain ⟨P0, HS⟩ : ∃ P, Hid (SpS w (w1.alloc (.cells #[.slice A1 64 c1, .int .i64 0, .slice A2 16 c2] 49)) b w1.heap.size 0 (.slice A1 64 c1) (.slice A2 16 c2) Sp.new Sp.new P) := ⟨_, HS⟩
  revert HS
  generalize w1.alloc (.cells #[.slice A1 64 c1, .int .i64 0, .slice A2 16 c2] 49) = wA
  generalize w1.heap.size = X at *
  intro HS
  clear HZ
  go_loopw [9] (fun i wr => ∃ k : Nat, k ≤ ls.length ∧ k ≤ 40 ∧ i = .int .i64 k ∧ ∃ A1 c1 A2 c2 f P, Hid (SpS w wr b X (64 * k) (.slice A1 64 c1) (.slice A2 16 c2) f f P)) (fun i _ => 40 - (intOf i).toNat)
  case atStart => exact ⟨0, Nat.zero_le _, Nat.zero_le _, rfl, _, _, _, _, _, _, HS⟩
  case round =>
    clear HS
    obtain ⟨k, hk, hk4, rfl, A1, c1, A2, c2, f, P, hS⟩ := hrel
    by_cases hin : k < ls.length ∧ k < 40
    · obtain ⟨hlt, h40⟩ := hin
      obtain ⟨rfl, hg⟩ := HF.out.1 (by omega)
      obtain ⟨u, kb, hcell0, hkb, hsl, _⟩ := HF.out.2 k hlt
      have hcell := hS.out.fr.cell hcell0 (by simp)
      have HSL := Lib.hid (fun W (hW : Fr [] w W) => hsl.fr hW (by simp))
      obtain ⟨A', o', c', rfl, hm', hA', hc'⟩ := hsl.form
      clear hcell0
      have i0 : (0 : Int) ≤ k := by omega
      have i1 : (k : Int) < ls.length := by omega
      have i4 : (k : Int) < 40 := by omega
      clear hsl
      obtain ⟨x0, x1, x2⟩ := hS.out.box.cells
      by_cases hl1 : (nthR ls k).length = 1
      · have e1 : ((nthR ls k).length : Int) = 1 := by omega
        obtain rfl := hA' (by omega)
        have c0 := hc' 0 (by omega)
        rw [Nat.add_zero] at c0
        have HC0 := Lib.hid (fun W (hW : Fr [] w W) => hW.cell c0 (by simp))
        clear c0
        rw [hl1] at hcell
        clear hc' hA' hl1 hkb e1
        generalize nth (nthR ls k) 0 = y0 at *
        have HEC : Hid (Sp.cutErr y0 = Sp.cutC y0) := rfl
        have HOC := Lib.hid (Sp.cut_ok hS.out.ok y0)
        have HSD := Lib.hid (hS.out.step (Fr.refl [] wr).drew)
        have HCX := Lib.hid (sr_Cut wr.drew _ _ f y0 HSD.out.val HSD.out.okx HSD.out.new)
        go_wp2_with fail
        (refine wp_region_mix (Fr [] w ·) 9 [(true, 1), (true, 2), (true, 3), (false, 0), (false, 4), (true, 5), (true, 6), (true, 7), (false, 8)] (by kernel_rfl) (by kernel_rfl) (hS.out.fr.drew) ?_; simp only [pickOps, List.map_cons, List.map_nil, List.getD_cons_zero, List.getD_cons_succ, List.drop_succ_cons, List.drop_zero])
        (iterate 3 (first | (refine wpMix_take (v := ?_) (by rfl) ?_ ?_; rotate_left; (focus (intro W hW; have c0 := HC0.out W hW; go_simp; (try with_reducible rfl); done)); try simp only [Act.put, List.setIfInBounds_toArray, List.set_cons_zero, List.set_cons_succ]) | (refine wpMix_leave (by rfl) ?_; try simp only [Act.put, List.setIfInBounds_toArray, List.set_cons_zero, List.set_cons_succ])))
        refine wpMix_walk ?_
        go_wp2
        refine MixQ.mk (HSD.out.fr) ?_
        refine wpMix_walk ?_
        go_wp2_with (go_at_call 25; (with_reducible refine useC HCX.out ?_); rintro e w2 ⟨v2, rfl, hv2, hf2⟩; have HS2 := Lib.hid (HSD.out.step hf2); obtain ⟨A3, c3, A4, c4, rfl, hS3⟩ := HSD.out.put hf2 hv2 HOC.out; have HS3 := Lib.hid hS3; clear hS3 hv2 hf2)
        refine MixQ.mk (HS2.out.fr) ?_
        (iterate 3 (first | (refine wpMix_take (v := ?_) (by rfl) ?_ ?_; rotate_left; (focus (intro W hW; skip; go_simp; (try with_reducible rfl); done)); try simp only [Act.put, List.setIfInBounds_toArray, List.set_cons_zero, List.set_cons_succ]) | (refine wpMix_leave (by rfl) ?_; try simp only [Act.put, List.setIfInBounds_toArray, List.set_cons_zero, List.set_cons_succ])))
        refine wpMix_walk ?_
        clear x0 x1 x2
        obtain ⟨x0, x1, x2⟩ := HS2.out.box.cells
        have hfz := fun i => free_block HS2.out.box i none
        go_wp2
        refine MixQ.mk (HS3.out.fr) ?_
        refine wpMix_nil ?_
        have HFC := Lib.hid (sp_Cut _ P b (64 * k) f y0 HS3.out.file HS3.out.ok)
        rw [HEC.out] at HFC
        clear x0 x1 x2 hfz HCX HS2
        generalize ((w2.setCell ⟨X, 0, none⟩ (.slice A3 64 c3)).setCell ⟨X, 1, none⟩ (.int .i64 (Sp.cut f y0).size)).setCell ⟨X, 2, none⟩ (.slice A4 16 c4) = w3 at *
        have c0 := HC0.out w3 HS3.out.fr
        go_wp2_with (first
          | (go_at_call 26; (with_reducible refine useC HFC.out ?_); rintro e w4 ⟨rfl, hs4, hf4⟩; have HS4 := Lib.hid (HS3.out.turn hs4 hf4 (fun _ h => .inl h) HOC.out); clear hs4 hf4)
          | (go_at_call 12; (with_reducible refine useC (error_yes (Sp.cutC y0) w4 (HE.out w4 HS4.out.fr)) ?_); rintro e w5 ⟨rfl, hf⟩; have HS5 := Lib.hid (HS4.out.step hf); clear hf))
        obtain ⟨f5, P5, HS5⟩ : ∃ f P, Hid (SpS w w5 b X (64 * (k + 1)) (.slice A3 64 c3) (.slice A4 16 c4) f f P) := ⟨_, _, HS5.out.mono (by omega)⟩
        clear HFC HS3 HS4 HEC HOC HSD hS HC0 c0 HSL hcell
        have H64 := HS5.out.ok.size
        obtain ⟨gk, -, hsk⟩ := HS5.out.blk
        obtain ⟨ok, ck, ek, k1, k2, k3⟩ := hsk.form2 (by rw [HS5.out.ok.lenK]; decide)
        rw [HS5.out.ok.lenK] at ek k1 k3
        injection ek with ek _ ek2
        subst ek ek2
        have HCK := Lib.hid (fun W (hW : Fr [] w5 W) i (hi : i < 16) => hW.cell (k3 i hi) (by simp))
        obtain ⟨gb, -, hsb⟩ := HS5.out.byt
        obtain ⟨ob, cb, eb, b1, b2, b3⟩ := hsb.form2 (by rw [HS5.out.ok.lenB]; decide)
        have HTK := Lib.hid (fun W (hW : Fr [] w5 W) => (Sl.take b3 b1 b2 (n := f5.size) (by rw [HS5.out.ok.lenB]; exact H64)).fr hW (by simp))
        rw [HS5.out.ok.lenB] at eb b1
        injection eb with eb _ eb2
        subst eb eb2
        have hcb : f5.size ≤ c3 := by omega
        have hcbI : (f5.size : Int) ≤ c3 := by omega
        have HRD := Lib.hid (sp_Read_ok w5 P5 b _ f5 HS5.out.file HS5.out.ok 0 64 (by decide) (by decide))
        rw [Sp.read_all HS5.out.ok] at HRD
        clear hsk k1 k2 k3 hsb b1 b2 b3
        go_wp2_with (go_at_call 29; (with_reducible refine useC HRD.out ?_); rintro e w6 ⟨vm, rfl, ho, hf⟩; obtain ⟨gm, _, hsm⟩ := ho.sl; have HM := Lib.hid (fun W (hW : Fr [] w6 W) => hsm.fr hW (by simp)); have HF6 := Lib.hid hf; clear ho hf hsm)
        have HBL := Lib.hid (fun k => Sp.blocks_len f5.blk k)
        go_loopw [14, 15] (fun v i wr => ∃ j : Nat, j ≤ 16 ∧ i = .int .i64 j ∧ Hid (Own wr w6.heap.size 3 v (Sp.blocks f5.blk j)) ∧ Hid (Fr [] w6 wr)) (fun _ i _ => 16 - (intOf i).toNat)
        case atStart => exact ⟨0, Nat.zero_le _, rfl, Own.nil _ _ _, Fr.refl _ _⟩
        case round =>
          obtain ⟨j, hj, rfl, hO, hFF⟩ := hrel
          have HSj := Lib.hid (HS5.out.step (HF6.out.trans hFF.out))
          obtain ⟨y0, y1, y2⟩ := HSj.out.box.cells
          have hcell := HCK.out wr (HF6.out.trans hFF.out)
          by_cases hlt' : j < 16
          · have hcj := hcell j hlt'
            have j1 : (j : Int) < 16 := by omega
            have j0 : (0 : Int) ≤ j := by omega
            have hsz := hFF.out.size
            have HST := Lib.hid (Sp.blocks_step f5.blk j)
            clear hcell
            by_cases hb : nth f5.blk j = 1
            · have HS2 := Lib.hid (show Sp.blocks f5.blk (j + 1) = Sp.blocks f5.blk j ++ [(j : Int)] from by rw [HST.out, if_pos hb])
              rw [hb] at hcj
              clear hb HST
              go_wp2_with (at_builtin; refine wpList_push_int Tryd.intT rfl _ _ rfl w6.heap.size _ _ rfl hO.out rfl (by have := HBL.out j; omega) hsz ?_; intro v' w7 h1 _ h3; have H7 := Lib.hid (hFF.out.below_step h3 (Nat.le_refl _)); have HO7 := Lib.hid h1; clear h1 h3)
              go_roundw
              case rel => exact ⟨j + 1, by omega, by go_num, by show Own _ _ _ _ _; rw [HS2.out]; exact HO7.out, H7⟩
              case measure => simp [intOf]; omega
            · have HS2 := Lib.hid (show Sp.blocks f5.blk (j + 1) = Sp.blocks f5.blk j from by rw [HST.out, if_neg hb])
              have eb : (nth f5.blk j == 1) = false := by simpa using hb
              clear hb HST
              generalize nth f5.blk j = yj at *
              go_wp2
              go_roundw
              case rel => exact ⟨j + 1, by omega, by go_num, by show Own _ _ _ _ _; rw [HS2.out]; exact hO.out, hFF⟩
              case measure => simp [intOf]; omega
          · obtain rfl : j = 16 := by omega
            obtain ⟨wz, hwz⟩ : ∃ x, x = wr := ⟨_, rfl⟩
            subst hwz
            have HSd := Lib.hid (HSj.out.step (Fr.refl [] wz).drew)
            obtain ⟨gz, _, hsz⟩ := hO.out.sl
            have HZ := Lib.hid (fun W (hW : Fr [] wz W) => hsz.fr hW (by simp))
            have HFz := Lib.hid (HF6.out.trans hFF.out)
            have HXC := Lib.hid (fun W (hW : Fr [] wz W) => (HSj.out.step hW).box.cells)
            clear hcell hsz y0 y1 y2
            go_wp2_with fail
            (refine wp_region_mix (Fr [] wz ·) 23 [(true, 0), (true, 1), (true, 2), (true, 3), (true, 5), (true, 6), (false, 4), (true, 7), (true, 8), (true, 9), (true, 10), (true, 11), (true, 12), (true, 13), (true, 14), (true, 15), (false, 16), (true, 17), (true, 18), (true, 19), (true, 20), (true, 22), (false, 21)] (by kernel_rfl) (by kernel_rfl) ((Fr.refl _ _).drew) ?_; simp only [pickOps, List.map_cons, List.map_nil, List.getD_cons_zero, List.getD_cons_succ, List.drop_succ_cons, List.drop_zero])
            (iterate 6 (first | (refine wpMix_take (v := ?_) (by rfl) ?_ ?_; rotate_left; (focus (intro W hW; obtain ⟨y0, y1, y2⟩ := HXC.out W hW; go_simp; (try with_reducible rfl); done)); try simp only [Act.put, List.setIfInBounds_toArray, List.set_cons_zero, List.set_cons_succ]) | (refine wpMix_leave (by rfl) ?_; try simp only [Act.put, List.setIfInBounds_toArray, List.set_cons_zero, List.set_cons_succ])))
            refine wpMix_walk ?_
            go_wp2_with (go_at_call 30; (with_reducible refine useC (sp_Size wz.drew P5 b _ f5 HSd.out.file) ?_); rintro e w8 ⟨rfl, rfl⟩)
            refine MixQ.mk ((Fr.refl _ _).drew) ?_
            (iterate 9 (first | (refine wpMix_take (v := ?_) (by rfl) ?_ ?_; rotate_left; (focus (intro W hW; obtain ⟨y0, y1, y2⟩ := HXC.out W hW; go_simp; (try with_reducible rfl); done)); try simp only [Act.put, List.setIfInBounds_toArray, List.set_cons_zero, List.set_cons_succ]) | (refine wpMix_leave (by rfl) ?_; try simp only [Act.put, List.setIfInBounds_toArray, List.set_cons_zero, List.set_cons_succ])))
            refine wpMix_walk ?_
            go_wp2_with (go_at_call 31; (with_reducible refine useC (ints_same wz.drew _ _ gm gb _ (HM.out _ (hFF.out.drew)) (HTK.out _ HFz.out.drew)) ?_); rintro e w8 ⟨rfl, hdr⟩; have HF8 := Lib.hid ((Fr.refl [] wz).drew.trans (hdr.fr [])); clear hdr)
            refine MixQ.mk (HF8.out) ?_
            (iterate 5 (first | (refine wpMix_take (v := ?_) (by rfl) ?_ ?_; rotate_left; (focus (intro W hW; skip; go_simp; (try with_reducible rfl); done)); try simp only [Act.put, List.setIfInBounds_toArray, List.set_cons_zero, List.set_cons_succ]) | (refine wpMix_leave (by rfl) ?_; try simp only [Act.put, List.setIfInBounds_toArray, List.set_cons_zero, List.set_cons_succ])))
            refine wpMix_walk ?_
            go_wp2_with (go_at_call 32; (with_reducible refine useC (sp_Blocks w8 P5 b _ f5 (HSj.out.step HF8.out).file) ?_); rintro e w9 ⟨v9, rfl, ho, hf⟩; obtain ⟨g9, _, hs9⟩ := ho.sl; have HS9 := Lib.hid hs9; have HF9 := Lib.hid (HF8.out.trans hf); clear ho hf hs9)
            refine MixQ.mk (HF9.out) ?_
            refine wpMix_nil ?_
            go_wp2_with (go_at_call 31; (with_reducible refine useC (ints_same w9 _ _ _ gz _ HS9.out (HZ.out w9 HF9.out)) ?_); rintro e w10 ⟨rfl, hdr⟩; have HS10 := Lib.hid (HSj.out.step (HF9.out.trans (hdr.fr []))); clear hdr)
            go_roundw
            case rel => exact ⟨k + 1, by omega, by omega, by go_num, _, _, _, _, _, _, HS10⟩
            case measure => simp [intOf]; omega
      · by_cases hl2 : 1 < (nthR ls k).length
        · have e1 : (((nthR ls k).length : Int) == 1) = false := by simp; omega
          have e2 : (1 : Int) < (nthR ls k).length := by omega
          have e3 : (1 : Int) ≤ (nthR ls k).length := by omega
          have HSL0 := Lib.hid (HSL.out w (Fr.refl _ _))
          obtain ⟨o2, c2', e0, k1, k2, k3⟩ := HSL0.out.form2 (by omega)
          injection e0 with e0 _ e4
          subst e4
          have e5 : c' ≠ 1 := by omega
          obtain rfl := hA' (by omega)
          injection e0 with e0
          injection e0 with _ e0 _
          subst e0
          have c0 := hc' 0 (by omega)
          rw [Nat.add_zero] at c0
          have HC0 := Lib.hid (fun W (hW : Fr [] w W) => hW.cell c0 (by simp))
          have HTL := Lib.hid (fun W (hW : Fr [] w W) => (Sl.tail k3 k1 k2).fr hW (by simp))
          have hkt : kb < w.heap.size ∨ (nthR ls k).tail = [] := hkb.imp_right (fun h => by rw [h]; rfl)
          have HKT := Lib.hid hkt
          clear hc' hA' hl1 hkb k1 k2 k3 hm' c0 HSL0 hkt
          generalize nth (nthR ls k) 0 = y0 at *
          generalize (nthR ls k).tail = tl at *
          generalize (nthR ls k).length = m at *
          have n0 : 0 < m := by omega
          have n1 : (0 : Int) < m := by omega
          have HOC := Lib.hid (Sp.write_ok hS.out.ok y0 tl)
          have HSD := Lib.hid (hS.out.step (Fr.refl [] wr).drew)
          have HCX := Lib.hid (sr_Write wr.drew _ _ _ kb f y0 tl HSD.out.val HSD.out.okx HSD.out.new (HTL.out _ HSD.out.fr))
          go_wp2_with fail
          (refine wp_region_mix (Fr [] w ·) 11 [(true, 1), (true, 2), (true, 3), (true, 4), (true, 5), (false, 0), (false, 6), (true, 7), (true, 8), (true, 9), (false, 10)] (by kernel_rfl) (by kernel_rfl) (hS.out.fr.drew) ?_; simp only [pickOps, List.map_cons, List.map_nil, List.getD_cons_zero, List.getD_cons_succ, List.drop_succ_cons, List.drop_zero])
          (iterate 5 (first | (refine wpMix_take (v := ?_) (by rfl) ?_ ?_; rotate_left; (focus (intro W hW; have c0 := HC0.out W hW; go_simp; (try with_reducible rfl); done)); try simp only [Act.put, List.setIfInBounds_toArray, List.set_cons_zero, List.set_cons_succ]) | (refine wpMix_leave (by rfl) ?_; try simp only [Act.put, List.setIfInBounds_toArray, List.set_cons_zero, List.set_cons_succ])))
          refine wpMix_walk ?_
          go_wp2
          refine MixQ.mk (HSD.out.fr) ?_
          refine wpMix_walk ?_
          go_wp2_with (go_at_call 27; (with_reducible refine useC HCX.out ?_); rintro e w2 ⟨v2, rfl, hv2, hf2⟩; have HS2 := Lib.hid (HSD.out.step hf2); obtain ⟨A3, c3, A4, c4, rfl, hS3⟩ := HSD.out.put hf2 hv2 HOC.out; have HS3 := Lib.hid hS3; clear hS3 hv2 hf2)
          refine MixQ.mk (HS2.out.fr) ?_
          (iterate 3 (first | (refine wpMix_take (v := ?_) (by rfl) ?_ ?_; rotate_left; (focus (intro W hW; skip; go_simp; (try with_reducible rfl); done)); try simp only [Act.put, List.setIfInBounds_toArray, List.set_cons_zero, List.set_cons_succ]) | (refine wpMix_leave (by rfl) ?_; try simp only [Act.put, List.setIfInBounds_toArray, List.set_cons_zero, List.set_cons_succ])))
          refine wpMix_walk ?_
          clear x0 x1 x2
          obtain ⟨x0, x1, x2⟩ := HS2.out.box.cells
          have hfz := fun i => free_block HS2.out.box i none
          go_wp2
          refine MixQ.mk (HS3.out.fr) ?_
          refine wpMix_nil ?_
          clear x0 x1 x2 hfz HCX HS2
          generalize ((w2.setCell ⟨X, 0, none⟩ (.slice A3 64 c3)).setCell ⟨X, 1, none⟩ (.int .i64 (Sp.write f y0 tl).size)).setCell ⟨X, 2, none⟩ (.slice A4 16 c4) = w3 at *
          have HS3d := Lib.hid (HS3.out.step (Fr.refl [] w3).drew)
          have HFC := Lib.hid (sp_Write w3.drew P b (64 * k) f y0 _ kb tl HS3d.out.file HS3d.out.ok (HTL.out _ HS3d.out.fr) (HKT.out.elim (fun h => .inr (fun hp => by have := (HS3d.out.hP kb hp).1; omega)) .inl) (by omega))
          go_wp2_with fail
          (refine wp_region_mix (Fr [] w ·) 8 [(true, 0), (true, 1), (true, 2), (true, 3), (true, 4), (true, 5), (true, 7), (false, 6)] (by kernel_rfl) (by kernel_rfl) (HS3d.out.fr) ?_; simp only [pickOps, List.map_cons, List.map_nil, List.getD_cons_zero, List.getD_cons_succ, List.drop_succ_cons, List.drop_zero])
          (iterate 7 (first | (refine wpMix_take (v := ?_) (by rfl) ?_ ?_; rotate_left; (focus (intro W hW; have c0 := HC0.out W hW; go_simp; (try with_reducible rfl); done)); try simp only [Act.put, List.setIfInBounds_toArray, List.set_cons_zero, List.set_cons_succ]) | (refine wpMix_leave (by rfl) ?_; try simp only [Act.put, List.setIfInBounds_toArray, List.set_cons_zero, List.set_cons_succ])))
          refine wpMix_walk ?_
          go_wp2_with (go_at_call 28; (with_reducible refine useC HFC.out ?_); rintro e w4 ⟨rfl, hs4, hf4⟩; have HS4 := Lib.hid (HS3d.out.turn hs4 hf4 (fun _ h => h) HOC.out); clear hs4 hf4)
          refine MixQ.mk (HS4.out.fr) ?_
          refine wpMix_nil ?_
          go_wp2_with (go_at_call 12; (with_reducible refine useC (error_yes (Sp.wrong y0 tl) w4 (HE.out w4 HS4.out.fr)) ?_); rintro e w5 ⟨rfl, hf⟩; have HS5 := Lib.hid (HS4.out.step hf); clear hf)
          obtain ⟨f5, P5, HS5⟩ : ∃ f P, Hid (SpS w w5 b X (64 * (k + 1)) (.slice A3 64 c3) (.slice A4 16 c4) f f P) := ⟨_, _, HS5.out.mono (by omega)⟩
          clear HFC HS3 HS4 HOC HSD hS HC0 HSL hcell HS3d HTL HKT
          have H64 := HS5.out.ok.size
          obtain ⟨gk, -, hsk⟩ := HS5.out.blk
          obtain ⟨ok, ck, ek, k1, k2, k3⟩ := hsk.form2 (by rw [HS5.out.ok.lenK]; decide)
          rw [HS5.out.ok.lenK] at ek k1 k3
          injection ek with ek _ ek2
          subst ek ek2
          have HCK := Lib.hid (fun W (hW : Fr [] w5 W) i (hi : i < 16) => hW.cell (k3 i hi) (by simp))
          obtain ⟨gb, -, hsb⟩ := HS5.out.byt
          obtain ⟨ob, cb, eb, b1, b2, b3⟩ := hsb.form2 (by rw [HS5.out.ok.lenB]; decide)
          have HTK := Lib.hid (fun W (hW : Fr [] w5 W) => (Sl.take b3 b1 b2 (n := f5.size) (by rw [HS5.out.ok.lenB]; exact H64)).fr hW (by simp))
          rw [HS5.out.ok.lenB] at eb b1
          injection eb with eb _ eb2
          subst eb eb2
          have hcb : f5.size ≤ c3 := by omega
          have hcbI : (f5.size : Int) ≤ c3 := by omega
          have HRD := Lib.hid (sp_Read_ok w5 P5 b _ f5 HS5.out.file HS5.out.ok 0 64 (by decide) (by decide))
          rw [Sp.read_all HS5.out.ok] at HRD
          clear hsk k1 k2 k3 hsb b1 b2 b3
          go_wp2_with (go_at_call 29; (with_reducible refine useC HRD.out ?_); rintro e w6 ⟨vm, rfl, ho, hf⟩; obtain ⟨gm, _, hsm⟩ := ho.sl; have HM := Lib.hid (fun W (hW : Fr [] w6 W) => hsm.fr hW (by simp)); have HF6 := Lib.hid hf; clear ho hf hsm)
          have HBL := Lib.hid (fun k => Sp.blocks_len f5.blk k)
          go_loopw [14, 15] (fun v i wr => ∃ j : Nat, j ≤ 16 ∧ i = .int .i64 j ∧ Hid (Own wr w6.heap.size 3 v (Sp.blocks f5.blk j)) ∧ Hid (Fr [] w6 wr)) (fun _ i _ => 16 - (intOf i).toNat)
          case atStart => exact ⟨0, Nat.zero_le _, rfl, Own.nil _ _ _, Fr.refl _ _⟩
          case round =>
            obtain ⟨j, hj, rfl, hO, hFF⟩ := hrel
            have HSj := Lib.hid (HS5.out.step (HF6.out.trans hFF.out))
            obtain ⟨y0, y1, y2⟩ := HSj.out.box.cells
            have hcell := HCK.out wr (HF6.out.trans hFF.out)
            by_cases hlt' : j < 16
            · have hcj := hcell j hlt'
              have j1 : (j : Int) < 16 := by omega
              have j0 : (0 : Int) ≤ j := by omega
              have hsz := hFF.out.size
              have HST := Lib.hid (Sp.blocks_step f5.blk j)
              clear hcell
              by_cases hb : nth f5.blk j = 1
              · have HS2 := Lib.hid (show Sp.blocks f5.blk (j + 1) = Sp.blocks f5.blk j ++ [(j : Int)] from by rw [HST.out, if_pos hb])
                rw [hb] at hcj
                clear hb HST
                go_wp2_with (at_builtin; refine wpList_push_int Tryd.intT rfl _ _ rfl w6.heap.size _ _ rfl hO.out rfl (by have := HBL.out j; omega) hsz ?_; intro v' w7 h1 _ h3; have H7 := Lib.hid (hFF.out.below_step h3 (Nat.le_refl _)); have HO7 := Lib.hid h1; clear h1 h3)
                go_roundw
                case rel => exact ⟨j + 1, by omega, by go_num, by show Own _ _ _ _ _; rw [HS2.out]; exact HO7.out, H7⟩
                case measure => simp [intOf]; omega
              · have HS2 := Lib.hid (show Sp.blocks f5.blk (j + 1) = Sp.blocks f5.blk j from by rw [HST.out, if_neg hb])
                have eb : (nth f5.blk j == 1) = false := by simpa using hb
                clear hb HST
                generalize nth f5.blk j = yj at *
                go_wp2
                go_roundw
                case rel => exact ⟨j + 1, by omega, by go_num, by show Own _ _ _ _ _; rw [HS2.out]; exact hO.out, hFF⟩
                case measure => simp [intOf]; omega
            · obtain rfl : j = 16 := by omega
              obtain ⟨wz, hwz⟩ : ∃ x, x = wr := ⟨_, rfl⟩
              subst hwz
              have HSd := Lib.hid (HSj.out.step (Fr.refl [] wz).drew)
              obtain ⟨gz, _, hsz⟩ := hO.out.sl
              have HZ := Lib.hid (fun W (hW : Fr [] wz W) => hsz.fr hW (by simp))
              have HFz := Lib.hid (HF6.out.trans hFF.out)
              have HXC := Lib.hid (fun W (hW : Fr [] wz W) => (HSj.out.step hW).box.cells)
              clear hcell hsz y0 y1 y2
              go_wp2_with fail
              (refine wp_region_mix (Fr [] wz ·) 23 [(true, 0), (true, 1), (true, 2), (true, 3), (true, 5), (true, 6), (false, 4), (true, 7), (true, 8), (true, 9), (true, 10), (true, 11), (true, 12), (true, 13), (true, 14), (true, 15), (false, 16), (true, 17), (true, 18), (true, 19), (true, 20), (true, 22), (false, 21)] (by kernel_rfl) (by kernel_rfl) ((Fr.refl _ _).drew) ?_; simp only [pickOps, List.map_cons, List.map_nil, List.getD_cons_zero, List.getD_cons_succ, List.drop_succ_cons, List.drop_zero])
              (iterate 6 (first | (refine wpMix_take (v := ?_) (by rfl) ?_ ?_; rotate_left; (focus (intro W hW; obtain ⟨y0, y1, y2⟩ := HXC.out W hW; go_simp; (try with_reducible rfl); done)); try simp only [Act.put, List.setIfInBounds_toArray, List.set_cons_zero, List.set_cons_succ]) | (refine wpMix_leave (by rfl) ?_; try simp only [Act.put, List.setIfInBounds_toArray, List.set_cons_zero, List.set_cons_succ])))
              refine wpMix_walk ?_
              go_wp2_with (go_at_call 30; (with_reducible refine useC (sp_Size wz.drew P5 b _ f5 HSd.out.file) ?_); rintro e w8 ⟨rfl, rfl⟩)
              refine MixQ.mk ((Fr.refl _ _).drew) ?_
              (iterate 9 (first | (refine wpMix_take (v := ?_) (by rfl) ?_ ?_; rotate_left; (focus (intro W hW; obtain ⟨y0, y1, y2⟩ := HXC.out W hW; go_simp; (try with_reducible rfl); done)); try simp only [Act.put, List.setIfInBounds_toArray, List.set_cons_zero, List.set_cons_succ]) | (refine wpMix_leave (by rfl) ?_; try simp only [Act.put, List.setIfInBounds_toArray, List.set_cons_zero, List.set_cons_succ])))
              refine wpMix_walk ?_
              go_wp2_with (go_at_call 31; (with_reducible refine useC (ints_same wz.drew _ _ gm gb _ (HM.out _ (hFF.out.drew)) (HTK.out _ HFz.out.drew)) ?_); rintro e w8 ⟨rfl, hdr⟩; have HF8 := Lib.hid ((Fr.refl [] wz).drew.trans (hdr.fr [])); clear hdr)
              refine MixQ.mk (HF8.out) ?_
              (iterate 5 (first | (refine wpMix_take (v := ?_) (by rfl) ?_ ?_; rotate_left; (focus (intro W hW; skip; go_simp; (try with_reducible rfl); done)); try simp only [Act.put, List.setIfInBounds_toArray, List.set_cons_zero, List.set_cons_succ]) | (refine wpMix_leave (by rfl) ?_; try simp only [Act.put, List.setIfInBounds_toArray, List.set_cons_zero, List.set_cons_succ])))
              refine wpMix_walk ?_
              go_wp2_with (go_at_call 32; (with_reducible refine useC (sp_Blocks w8 P5 b _ f5 (HSj.out.step HF8.out).file) ?_); rintro e w9 ⟨v9, rfl, ho, hf⟩; obtain ⟨g9, _, hs9⟩ := ho.sl; have HS9 := Lib.hid hs9; have HF9 := Lib.hid (HF8.out.trans hf); clear ho hf hs9)
              refine MixQ.mk (HF9.out) ?_
              refine wpMix_nil ?_
              go_wp2_with (go_at_call 31; (with_reducible refine useC (ints_same w9 _ _ _ gz _ HS9.out (HZ.out w9 HF9.out)) ?_); rintro e w10 ⟨rfl, hdr⟩; have HS10 := Lib.hid (HSj.out.step (HF9.out.trans (hdr.fr []))); clear hdr)
              go_roundw
              case rel => exact ⟨k + 1, by omega, by omega, by go_num, _, _, _, _, _, _, HS10⟩
              case measure => simp [intOf]; omega
        · have e1 : (((nthR ls k).length : Int) == 1) = false := by simp; omega
          have e2 : ¬ (1 : Int) < (nthR ls k).length := by omega
          clear hc' hA' hl1 hl2 hkb
          go_wp2_with fail
          obtain ⟨f5, P5, HS5⟩ : ∃ f P, Hid (SpS w wr b X (64 * (k + 1)) (.slice A1 64 c1) (.slice A2 16 c2) f f P) := ⟨_, _, hS.out.mono (by omega)⟩
          clear hS HSL hcell
          clear x0 x1 x2
          obtain ⟨w5, hw5⟩ : ∃ x, x = wr := ⟨_, rfl⟩
          subst hw5
          have H64 := HS5.out.ok.size
          obtain ⟨gk, -, hsk⟩ := HS5.out.blk
          obtain ⟨ok, ck, ek, k1, k2, k3⟩ := hsk.form2 (by rw [HS5.out.ok.lenK]; decide)
          rw [HS5.out.ok.lenK] at ek k1 k3
          injection ek with ek _ ek2
          subst ek ek2
          have HCK := Lib.hid (fun W (hW : Fr [] w5 W) i (hi : i < 16) => hW.cell (k3 i hi) (by simp))
          obtain ⟨gb, -, hsb⟩ := HS5.out.byt
          obtain ⟨ob, cb, eb, b1, b2, b3⟩ := hsb.form2 (by rw [HS5.out.ok.lenB]; decide)
          have HTK := Lib.hid (fun W (hW : Fr [] w5 W) => (Sl.take b3 b1 b2 (n := f5.size) (by rw [HS5.out.ok.lenB]; exact H64)).fr hW (by simp))
          rw [HS5.out.ok.lenB] at eb b1
          injection eb with eb _ eb2
          subst eb eb2
          have hcb : f5.size ≤ c1 := by omega
          have hcbI : (f5.size : Int) ≤ c1 := by omega
          have HRD := Lib.hid (sp_Read_ok w5 P5 b _ f5 HS5.out.file HS5.out.ok 0 64 (by decide) (by decide))
          rw [Sp.read_all HS5.out.ok] at HRD
          clear hsk k1 k2 k3 hsb b1 b2 b3
          go_wp2_with (go_at_call 29; (with_reducible refine useC HRD.out ?_); rintro e w6 ⟨vm, rfl, ho, hf⟩; obtain ⟨gm, _, hsm⟩ := ho.sl; have HM := Lib.hid (fun W (hW : Fr [] w6 W) => hsm.fr hW (by simp)); have HF6 := Lib.hid hf; clear ho hf hsm)
          have HBL := Lib.hid (fun k => Sp.blocks_len f5.blk k)
          go_loopw [14, 15] (fun v i wr => ∃ j : Nat, j ≤ 16 ∧ i = .int .i64 j ∧ Hid (Own wr w6.heap.size 3 v (Sp.blocks f5.blk j)) ∧ Hid (Fr [] w6 wr)) (fun _ i _ => 16 - (intOf i).toNat)
          case atStart => exact ⟨0, Nat.zero_le _, rfl, Own.nil _ _ _, Fr.refl _ _⟩
          case round =>
            obtain ⟨j, hj, rfl, hO, hFF⟩ := hrel
            have HSj := Lib.hid (HS5.out.step (HF6.out.trans hFF.out))
            obtain ⟨y0, y1, y2⟩ := HSj.out.box.cells
            have hcell := HCK.out wr (HF6.out.trans hFF.out)
            by_cases hlt' : j < 16
            · have hcj := hcell j hlt'
              have j1 : (j : Int) < 16 := by omega
              have j0 : (0 : Int) ≤ j := by omega
              have hsz := hFF.out.size
              have HST := Lib.hid (Sp.blocks_step f5.blk j)
              clear hcell
              by_cases hb : nth f5.blk j = 1
              · have HS2 := Lib.hid (show Sp.blocks f5.blk (j + 1) = Sp.blocks f5.blk j ++ [(j : Int)] from by rw [HST.out, if_pos hb])
                rw [hb] at hcj
                clear hb HST
                go_wp2_with (at_builtin; refine wpList_push_int Tryd.intT rfl _ _ rfl w6.heap.size _ _ rfl hO.out rfl (by have := HBL.out j; omega) hsz ?_; intro v' w7 h1 _ h3; have H7 := Lib.hid (hFF.out.below_step h3 (Nat.le_refl _)); have HO7 := Lib.hid h1; clear h1 h3)
                go_roundw
                case rel => exact ⟨j + 1, by omega, by go_num, by show Own _ _ _ _ _; rw [HS2.out]; exact HO7.out, H7⟩
                case measure => simp [intOf]; omega
              · have HS2 := Lib.hid (show Sp.blocks f5.blk (j + 1) = Sp.blocks f5.blk j from by rw [HST.out, if_neg hb])
                have eb : (nth f5.blk j == 1) = false := by simpa using hb
                clear hb HST
                generalize nth f5.blk j = yj at *
                go_wp2
                go_roundw
                case rel => exact ⟨j + 1, by omega, by go_num, by show Own _ _ _ _ _; rw [HS2.out]; exact hO.out, hFF⟩
                case measure => simp [intOf]; omega
            · obtain rfl : j = 16 := by omega
              obtain ⟨wz, hwz⟩ : ∃ x, x = wr := ⟨_, rfl⟩
              subst hwz
              have HSd := Lib.hid (HSj.out.step (Fr.refl [] wz).drew)
              obtain ⟨gz, _, hsz⟩ := hO.out.sl
              have HZ := Lib.hid (fun W (hW : Fr [] wz W) => hsz.fr hW (by simp))
              have HFz := Lib.hid (HF6.out.trans hFF.out)
              have HXC := Lib.hid (fun W (hW : Fr [] wz W) => (HSj.out.step hW).box.cells)
              clear hcell hsz y0 y1 y2
              go_wp2_with fail
              (refine wp_region_mix (Fr [] wz ·) 23 [(true, 0), (true, 1), (true, 2), (true, 3), (true, 5), (true, 6), (false, 4), (true, 7), (true, 8), (true, 9), (true, 10), (true, 11), (true, 12), (true, 13), (true, 14), (true, 15), (false, 16), (true, 17), (true, 18), (true, 19), (true, 20), (true, 22), (false, 21)] (by kernel_rfl) (by kernel_rfl) ((Fr.refl _ _).drew) ?_; simp only [pickOps, List.map_cons, List.map_nil, List.getD_cons_zero, List.getD_cons_succ, List.drop_succ_cons, List.drop_zero])
              (iterate 6 (first | (refine wpMix_take (v := ?_) (by rfl) ?_ ?_; rotate_left; (focus (intro W hW; obtain ⟨y0, y1, y2⟩ := HXC.out W hW; go_simp; (try with_reducible rfl); done)); try simp only [Act.put, List.setIfInBounds_toArray, List.set_cons_zero, List.set_cons_succ]) | (refine wpMix_leave (by rfl) ?_; try simp only [Act.put, List.setIfInBounds_toArray, List.set_cons_zero, List.set_cons_succ])))
              refine wpMix_walk ?_
              go_wp2_with (go_at_call 30; (with_reducible refine useC (sp_Size wz.drew P5 b _ f5 HSd.out.file) ?_); rintro e w8 ⟨rfl, rfl⟩)
              refine MixQ.mk ((Fr.refl _ _).drew) ?_
              (iterate 9 (first | (refine wpMix_take (v := ?_) (by rfl) ?_ ?_; rotate_left; (focus (intro W hW; obtain ⟨y0, y1, y2⟩ := HXC.out W hW; go_simp; (try with_reducible rfl); done)); try simp only [Act.put, List.setIfInBounds_toArray, List.set_cons_zero, List.set_cons_succ]) | (refine wpMix_leave (by rfl) ?_; try simp only [Act.put, List.setIfInBounds_toArray, List.set_cons_zero, List.set_cons_succ])))
              refine wpMix_walk ?_
              go_wp2_with (go_at_call 31; (with_reducible refine useC (ints_same wz.drew _ _ gm gb _ (HM.out _ (hFF.out.drew)) (HTK.out _ HFz.out.drew)) ?_); rintro e w8 ⟨rfl, hdr⟩; have HF8 := Lib.hid ((Fr.refl [] wz).drew.trans (hdr.fr [])); clear hdr)
              refine MixQ.mk (HF8.out) ?_
              (iterate 5 (first | (refine wpMix_take (v := ?_) (by rfl) ?_ ?_; rotate_left; (focus (intro W hW; skip; go_simp; (try with_reducible rfl); done)); try simp only [Act.put, List.setIfInBounds_toArray, List.set_cons_zero, List.set_cons_succ]) | (refine wpMix_leave (by rfl) ?_; try simp only [Act.put, List.setIfInBounds_toArray, List.set_cons_zero, List.set_cons_succ])))
              refine wpMix_walk ?_
              go_wp2_with (go_at_call 32; (with_reducible refine useC (sp_Blocks w8 P5 b _ f5 (HSj.out.step HF8.out).file) ?_); rintro e w9 ⟨v9, rfl, ho, hf⟩; obtain ⟨g9, _, hs9⟩ := ho.sl; have HS9 := Lib.hid hs9; have HF9 := Lib.hid (HF8.out.trans hf); clear ho hf hs9)
              refine MixQ.mk (HF9.out) ?_
              refine wpMix_nil ?_
              go_wp2_with (go_at_call 31; (with_reducible refine useC (ints_same w9 _ _ _ gz _ HS9.out (HZ.out w9 HF9.out)) ?_); rintro e w10 ⟨rfl, hdr⟩; have HS10 := Lib.hid (HSj.out.step (HF9.out.trans (hdr.fr []))); clear hdr)
              go_roundw
              case rel => exact ⟨k + 1, by omega, by omega, by go_num, _, _, _, _, _, _, HS10⟩
              case measure => simp [intOf]; omega
    · have hout : ¬ (k : Int) < ls.length ∨ ((k : Int) < ls.length ∧ ¬ (k : Int) < 40) := by omega
      have HRN := Lib.hid (fun h => sp_Read_no wr b a n h)
      obtain ⟨gb, -, hsb⟩ := hS.out.byt
      obtain ⟨ob, cb, eb, b1, b2, b3⟩ := hsb.form2 (by rw [hS.out.ok.lenB]; decide)
      rw [hS.out.ok.lenB] at eb b1
      injection eb with eb _ eb2
      subst eb eb2
      have HCT := Lib.hid (fun W (hW : Fr [] wr W) p m (h : p + m ≤ 64) => (Sl.cut b3 (by rw [hS.out.ok.lenB]; exact b1) b2 (a := p) (n := m) (by rw [hS.out.ok.lenB]; exact h)).fr hW (by simp))
      have H64 := hS.out.ok.size
      obtain ⟨x0, x1, x2⟩ := hS.out.box.cells
      clear hsb b2 b3 hin
      by_cases ha : 0 ≤ a ∧ a ≤ 64
      · have e1 := decide_eq_true ha
        by_cases hn : 0 ≤ n ∧ n ≤ 64
        · have e2 := decide_eq_true hn
          obtain ⟨p, rfl⟩ : ∃ p : Nat, a = p := ⟨a.toNat, by omega⟩
          obtain ⟨q, rfl⟩ : ∃ q : Nat, n = q := ⟨n.toNat, by omega⟩
          have hp : p ≤ 64 := by omega
          have hq : q ≤ 64 := by omega
          have HRD := Lib.hid (sp_Read_ok wr P b _ f hS.out.file hS.out.ok p q hp hq)
          clear ha hn HRN
          obtain ⟨t, ht⟩ : ∃ t : Nat, t = p + q := ⟨_, rfl⟩
          have hts : (p : Int) + q = t := by omega
          have HRL : Hid (Sp.readL f p q = (f.byt.drop p).take (min t f.size - p)) := by
            show Sp.readL f p q = _
            rw [ht]
            rfl
          have HLN : Hid ((Sp.readL f p q).length = min t f.size - p) := by
            show (Sp.readL f p q).length = _
            rw [HRL.out, List.length_take, List.length_drop, hS.out.ok.lenB]
            omega
          have ht2 : t ≤ p + q := by omega
          clear ht
          by_cases hgt : f.size < t
          · have hgI : (f.size : Int) < t := by omega
            by_cases hge : f.size ≤ p
            · have hl0 : (Sp.readL f p q).length = 0 := by rw [HLN.out]; omega
              have hgeI : (f.size : Int) ≤ p := by omega
              rcases hout with hout | ⟨hout, hout'⟩
              all_goals
                go_wp2_with (first
                  | (go_at_call 29; (with_reducible refine useC HRD.out ?_); rintro e w6 ⟨vm, rfl, ho, hf⟩; obtain ⟨gm, _, hsm⟩ := ho.sl; obtain ⟨Am, cm, rfl⟩ := ho.slice'; have HM := Lib.hid hsm; have HF6 := Lib.hid hf; have HS6 := Lib.hid (hS.out.step hf); obtain ⟨y0, y1, y2⟩ := (hS.out.step hf).box.cells; clear ho hf hsm)
                  | (go_at_call 11; (with_reducible refine useC (in2_is p _ _ true _ e1) ?_); rintro e w6 ⟨rfl, rfl⟩)
                  | (go_at_call 11; (with_reducible refine useC (in2_is q _ _ true _ e2) ?_); rintro e w6 ⟨rfl, rfl⟩))
                go_ret
                exact ⟨rfl, HS6.out.fr⟩
            · have HRR : Hid (Sp.readL f p q = (f.byt.drop p).take (f.size - p)) := by
                show Sp.readL f p q = _
                rw [HRL.out, show min t f.size - p = f.size - p by omega]
              have hgeI : ¬ (f.size : Int) ≤ p := by omega
              have t1 : p ≤ f.size := by omega
              have t2 : f.size ≤ c1 := by omega
              have t3 : (p : Int) ≤ f.size := by omega
              have t4 : (f.size : Int) ≤ c1 := by omega
              have HCC := Lib.hid (fun W hW => HCT.out W hW p (f.size - p) (by omega))
              rw [HRR.out] at HRD
              have HML : Hid (((f.byt.drop p).take (f.size - p)).length = f.size - p) := by
                show _ = _
                rw [List.length_take, List.length_drop, hS.out.ok.lenB]
                omega
              rcases hout with hout | ⟨hout, hout'⟩
              all_goals
                go_wp2_with (first
                  | (go_at_call 29; (with_reducible refine useC HRD.out ?_); rintro e w6 ⟨vm, rfl, ho, hf⟩; obtain ⟨gm, _, hsm⟩ := ho.sl; obtain ⟨Am, cm, rfl⟩ := ho.slice'; rw [HML.out] at hsm ⊢; have HM := Lib.hid hsm; have HF6 := Lib.hid hf; have HS6 := Lib.hid (hS.out.step hf); obtain ⟨y0, y1, y2⟩ := (hS.out.step hf).box.cells; clear ho hf hsm)
                  | (go_at_call 11; (with_reducible refine useC (in2_is p _ _ true _ e1) ?_); rintro e w6 ⟨rfl, rfl⟩)
                  | (go_at_call 11; (with_reducible refine useC (in2_is q _ _ true _ e2) ?_); rintro e w6 ⟨rfl, rfl⟩)
                  | (go_at_call 31; (with_reducible refine useC (ints_same w6 _ _ gm gb _ HM.out (HCC.out w6 HF6.out)) ?_); rintro e w7 ⟨rfl, hdr⟩; have HF7 := Lib.hid (HS6.out.fr.trans (hdr.fr [])); clear hdr))
                go_ret
                exact ⟨rfl, HF7.out⟩
          · have hgI : ¬ (f.size : Int) < t := by omega
            by_cases hge : t ≤ p
            · have hl0 : (Sp.readL f p q).length = 0 := by rw [HLN.out]; omega
              have hgeI : (t : Int) ≤ p := by omega
              rcases hout with hout | ⟨hout, hout'⟩
              all_goals
                go_wp2_with (first
                  | (go_at_call 29; (with_reducible refine useC HRD.out ?_); rintro e w6 ⟨vm, rfl, ho, hf⟩; obtain ⟨gm, _, hsm⟩ := ho.sl; obtain ⟨Am, cm, rfl⟩ := ho.slice'; have HM := Lib.hid hsm; have HF6 := Lib.hid hf; have HS6 := Lib.hid (hS.out.step hf); obtain ⟨y0, y1, y2⟩ := (hS.out.step hf).box.cells; clear ho hf hsm)
                  | (go_at_call 11; (with_reducible refine useC (in2_is p _ _ true _ e1) ?_); rintro e w6 ⟨rfl, rfl⟩)
                  | (go_at_call 11; (with_reducible refine useC (in2_is q _ _ true _ e2) ?_); rintro e w6 ⟨rfl, rfl⟩))
                go_ret
                exact ⟨rfl, HS6.out.fr⟩
            · have HRR : Hid (Sp.readL f p q = (f.byt.drop p).take (t - p)) := by
                show Sp.readL f p q = _
                rw [HRL.out, show min t f.size - p = t - p by omega]
              have hgeI : ¬ (t : Int) ≤ p := by omega
              have t1 : p ≤ t := by omega
              have t2 : t ≤ c1 := by omega
              have t3 : (p : Int) ≤ t := by omega
              have t4 : (t : Int) ≤ c1 := by omega
              have HCC := Lib.hid (fun W hW => HCT.out W hW p (t - p) (by omega))
              rw [HRR.out] at HRD
              have HML : Hid (((f.byt.drop p).take (t - p)).length = t - p) := by
                show _ = _
                rw [List.length_take, List.length_drop, hS.out.ok.lenB]
                omega
              rcases hout with hout | ⟨hout, hout'⟩
              all_goals
                go_wp2_with (first
                  | (go_at_call 29; (with_reducible refine useC HRD.out ?_); rintro e w6 ⟨vm, rfl, ho, hf⟩; obtain ⟨gm, _, hsm⟩ := ho.sl; obtain ⟨Am, cm, rfl⟩ := ho.slice'; rw [HML.out] at hsm ⊢; have HM := Lib.hid hsm; have HF6 := Lib.hid hf; have HS6 := Lib.hid (hS.out.step hf); obtain ⟨y0, y1, y2⟩ := (hS.out.step hf).box.cells; clear ho hf hsm)
                  | (go_at_call 11; (with_reducible refine useC (in2_is p _ _ true _ e1) ?_); rintro e w6 ⟨rfl, rfl⟩)
                  | (go_at_call 11; (with_reducible refine useC (in2_is q _ _ true _ e2) ?_); rintro e w6 ⟨rfl, rfl⟩)
                  | (go_at_call 31; (with_reducible refine useC (ints_same w6 _ _ gm gb _ HM.out (HCC.out w6 HF6.out)) ?_); rintro e w7 ⟨rfl, hdr⟩; have HF7 := Lib.hid (HS6.out.fr.trans (hdr.fr [])); clear hdr))
                go_ret
                exact ⟨rfl, HF7.out⟩
        · have e2 := decide_eq_false hn
          have HRX := Lib.hid (HRN.out (fun h => hn h.2))
          clear HRN ha hn
          rcases hout with hout | ⟨hout, hout'⟩
          all_goals
            go_wp2_with (first
              | (go_at_call 29; (with_reducible refine useC HRX.out ?_); rintro e w6 ⟨rfl, rfl⟩)
              | (go_at_call 11; (with_reducible refine useC (in2_is a _ _ true _ e1) ?_); rintro e w6 ⟨rfl, rfl⟩)
              | (go_at_call 11; (with_reducible refine useC (in2_is n _ _ false _ e2) ?_); rintro e w6 ⟨rfl, rfl⟩)
              | (go_at_call 12; (with_reducible refine useC (error_same1 1 _ (HE.out _ hS.out.fr)) ?_); rintro e w7 ⟨rfl, hf⟩; have HF7 := Lib.hid (hS.out.fr.trans hf); clear hf))
            go_ret
            exact ⟨rfl, HF7.out⟩
      · have e1 := decide_eq_false ha
        have HRX := Lib.hid (HRN.out (fun h => ha h.1))
        clear HRN ha
        rcases hout with hout | ⟨hout, hout'⟩
        all_goals
          go_wp2_with (first
            | (go_at_call 29; (with_reducible refine useC HRX.out ?_); rintro e w6 ⟨rfl, rfl⟩)
            | (go_at_call 11; (with_reducible refine useC (in2_is a _ _ false _ e1) ?_); rintro e w6 ⟨rfl, rfl⟩)
            | (go_at_call 12; (with_reducible refine useC (error_same1 1 _ (HE.out _ hS.out.fr)) ?_); rintro e w7 ⟨rfl, hf⟩; have HF7 := Lib.hid (hS.out.fr.trans hf); clear hf))
          go_ret
          exact ⟨rfl, HF7.out⟩
end Go.Proofs.YtmgalnkcpolafaaDoor
