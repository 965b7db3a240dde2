/- SoftPlays: any disk, and anything that is done with it. Printed by wip/gen_sxplays.py. -/
import Derived.Test.YtcldaaebncclmaaDoorSxFork
import Derived.Test.YtcldaaebncclmaaDoorCInts
import Derived.Test.YtcldaaebncclmaaDoorRw2
import Derived.Test.YtcldaaebncclmaaDoorFork
namespace Go.Proofs.YtcldaaebncclmaaDoor
open Go.RowKit

set_option maxRecDepth 100000 in
set_option maxHeartbeats 8000000 in
theorem sx_plays (w : World) (v : Value) (ls : List (List Int)) (hR : Rw w.heap.size w v ls) (hE : ErrType w) :
    Calls Tryd.prog 4 #[v] w (OkT w) := by
  have HE := Lib.hid (fun W (hW : Fr [] w W) => hE.fr hW (by simp))
  obtain ⟨A, g, o, c, rfl, hm, hF⟩ := hR
  have HF := Lib.hid hF
  clear hF hE
  go_enter Tryd.func4, Tryd.ntmps4
  go_wp2_with (first
    | (go_at_call 18; (with_reducible refine useC (so_New w) ?_); rintro e w0 ⟨rfl, hs, hf⟩; have HD0 := Lib.hid hs; have HF0 := Lib.hid hf; clear hs hf)
    | (go_at_call 19; (with_reducible refine useC (sx_New w0) ?_); rintro e w1 ⟨v, rfl, hv, hf⟩; obtain ⟨A1, c1, A2, c2, A3, c3, A4, c4, rfl, hS⟩ := SxS.start HD0.out HF0.out hv hf; have HS := Lib.hid hS; clear hv hf hS HD0 HF0))
  revert HS
  generalize w1.alloc (.cells #[.slice A1 8 c1, .slice A2 12 c2, .slice A3 8 c3, .slice A4 12 c4] 50) = wA
  generalize w1.heap.size = X at *
  generalize w.heap.size = b at *
  intro HS
  go_loopw [5] (fun i wr => ∃ k : Nat, k ≤ ls.length ∧ k ≤ 60 ∧ i = .int .i64 k ∧ ∃ A1 c1 A2 c2 A3 c3 A4 c4 L, Hid (SxS w wr b X (.slice A1 8 c1) (.slice A2 12 c2) (.slice A3 8 c3) (.slice A4 12 c4) L L k)) (fun i _ => 60 - (intOf i).toNat)
  case atStart => exact ⟨0, Nat.zero_le _, Nat.zero_le _, rfl, _, _, _, _, _, _, _, _, _, HS⟩
  case round =>
    clear HS
    obtain ⟨k, hk, hk6, rfl, A1, c1, A2, c2, A3, c3, A4, c4, L, hS⟩ := hrel
    by_cases hin : k < ls.length ∧ k < 60
    · obtain ⟨hlt, h60⟩ := hin
      obtain ⟨rfl, hg⟩ := HF.out.1 (by omega)
      obtain ⟨u, kb, hcell0, hkb, hsl, _⟩ := HF.out.2 k hlt
      have hcell := hS.out.fr.cell hcell0 (by simp)
      obtain ⟨A', o', c', rfl, hm', hA', hc'⟩ := hsl.form
      have i0 : (0 : Int) ≤ k := by omega
      have i1 : (k : Int) < ls.length := by omega
      have i6 : (k : Int) < 60 := by omega
      clear hsl hcell0 hkb
      obtain ⟨⟨x0, x1, x2, x3⟩, hfz⟩ := hS.out.cells
      by_cases hl1 : (nthR ls k).length = 1
      · clear hc' hA'
        have HCX := Lib.hid (sx_Sync wr _ _ L k hS.out.val hS.out.ok hS.out.new)
        have HOK := Lib.hid (So.sync_ok hS.out.ok).1
        have hdf : ∀ W, SoD W b L → Calls Tryd.prog 21 #[.pointer (some ⟨b, 0, none⟩)] W (SoAns b (.int .i64 ((So.sync L).2 : Int)) (So.sync L).1 W) := fun W hW => so_Sync W b L k hW hS.out.ok
        have HDF := Lib.hid hdf
        clear hdf
        generalize So.sync L = Z at *
        obtain ⟨L5, n5⟩ := Z
        dsimp only at HCX HOK HDF
        have H4 := Lib.hid (So4.of_ok HOK.out.shp.len)
        have hm5 : k ≤ k + 1 := by omega
        rw [hl1] at hcell
        go_wp2_with (first
          | (go_at_call 20; (with_reducible refine useC HCX.out ?_); rintro e w2 ⟨v2, rfl, hv2, hf2⟩; obtain ⟨A5, c5, A6, c6, A7, c7, A8, c8, rfl⟩ := hv2.form H4.out; have HS2 := Lib.hid (hS.out.step hf2); have hs3 := hS.out.put hf2 hv2 HOK.out; obtain ⟨w3, hw3⟩ : ∃ x, x = ((((w2.setCell ⟨X, 0, none⟩ (.slice A5 8 c5)).setCell ⟨X, 1, none⟩ (.slice A6 12 c6)).setCell ⟨X, 2, none⟩ (.slice A7 8 c7)).setCell ⟨X, 3, none⟩ (.slice A8 12 c8)) := ⟨_, rfl⟩; rw [← hw3] at hs3; have HS3 := Lib.hid hs3; have HW3 := Lib.hid hw3; clear hv2 hf2 hw3 hs3 x0 x1 x2 x3 hfz; obtain ⟨⟨x0, x1, x2, x3⟩, hfz⟩ := HS2.out.cells)
          | (rw [← HW3.out]; clear HW3 x0 x1 x2 x3 hfz)
          | (go_at_call 21; (with_reducible refine useC (HDF.out w3 HS3.out.disk) ?_); rintro e w5 ha; obtain ⟨rfl, hs⟩ := HS3.out.turn ha HOK.out; have HS5 := Lib.hid hs; clear ha hs; go_wp2_with fail))
        clear HS3 HDF HOK HCX HS2 hS H4
        have HIM := Lib.hid (so_Images w5 b L5 HS5.out.disk HS5.out.ok.shp.len)
        go_wp2_with (go_at_call 25; (with_reducible refine useC HIM.out ?_); rintro e w6 ⟨v1, v2, v3, v4, g1, g2, g3, g4, rfl, hs1, hs2, hs3, hs4, hf, -⟩; have HS6 := Lib.hid (HS5.out.step hf); have HI1 := Lib.hid hs1; have HI2 := Lib.hid hs2; have HI3 := Lib.hid hs3; have HI4 := Lib.hid hs4; clear hs1 hs2 hs3 hs4 hf; obtain ⟨⟨y0, y1, y2, y3⟩, -⟩ := HS6.out.cells; go_wp2_with fail)
        clear HIM
        have hs6 := HS6.out
        obtain ⟨ga, -, hsa⟩ := hs6.ra
        obtain ⟨gb, -, hsb⟩ := hs6.rb
        obtain ⟨gc, -, hsc⟩ := hs6.rc
        obtain ⟨gd, -, hsd⟩ := hs6.rd
        have HQ := Lib.hid (fun W (hW : Fr [] w6 W) => And.intro (ints_same W _ _ g1 ga _ (HI1.out.fr hW (by simp)) (hsa.fr hW (by simp))) (And.intro (ints_same W _ _ g2 gb _ (HI2.out.fr hW (by simp)) (hsb.fr hW (by simp))) (And.intro (ints_same W _ _ g3 gc _ (HI3.out.fr hW (by simp)) (hsc.fr hW (by simp))) (ints_same W _ _ g4 gd _ (HI4.out.fr hW (by simp)) (hsd.fr hW (by simp))))))
        have HT1 := Lib.hid (HQ.out w6 (Fr.refl _ _)).1
        clear hs6 hsa hsb hsc hsd HI1 HI2 HI3 HI4
        go_wp2_with (first
          | (go_at_call 26; (with_reducible refine useC HT1.out ?_); rintro e w7 ⟨rfl, hd⟩; have Q7 := Lib.hid (hd.fr []); clear hd y0 y1 y2 y3; have HS7 := Lib.hid (HS6.out.step Q7.out); obtain ⟨⟨y0, y1, y2, y3⟩, -⟩ := HS7.out.cells; have HT2 := Lib.hid (HQ.out w7 Q7.out).2.1)
          | (go_at_call 26; (with_reducible refine useC HT2.out ?_); rintro e w8 ⟨rfl, hd⟩; have Q8 := Lib.hid (Q7.out.trans (hd.fr [])); clear hd y0 y1 y2 y3; have HS8 := Lib.hid (HS6.out.step Q8.out); obtain ⟨⟨y0, y1, y2, y3⟩, -⟩ := HS8.out.cells; have HT3 := Lib.hid (HQ.out w8 Q8.out).2.2.1)
          | (go_at_call 26; (with_reducible refine useC HT3.out ?_); rintro e w9 ⟨rfl, hd⟩; have Q9 := Lib.hid (Q8.out.trans (hd.fr [])); clear hd y0 y1 y2 y3; have HS9 := Lib.hid (HS6.out.step Q9.out); obtain ⟨⟨y0, y1, y2, y3⟩, -⟩ := HS9.out.cells; have HT4 := Lib.hid (HQ.out w9 Q9.out).2.2.2)
          | (go_at_call 26; (with_reducible refine useC HT4.out ?_); rintro e w10 ⟨rfl, hd⟩; have Q10 := Lib.hid (Q9.out.trans (hd.fr [])); clear hd; have HS10 := Lib.hid ((HS6.out.step Q10.out).mono hm5)))
        go_roundw
        case rel => exact ⟨k + 1, by omega, by omega, by go_num, _, _, _, _, _, _, _, _, _, HS10⟩
        case measure => (simp [intOf]; try omega)
      · by_cases hl2 : (nthR ls k).length = 2
        · have b1 : (((nthR ls k).length : Int) == 1) = false := beq_eq_false_iff_ne.2 (by omega)
          clear hc' hA'
          rw [hl2] at hcell b1
          obtain ⟨hx4, hs4⟩ := hS.out.crash_
          have HOK := Lib.hid (So.crash_ok hS.out.ok)
          have hdf : ∀ W, SoD W b L → Calls Tryd.prog 22 #[.pointer (some ⟨b, 0, none⟩)] W (SoAns b (.tuple #[]) (So.crash L) W) := fun W hW => so_Crash W b L hW hS.out.ok.shp.len
          have HDF := Lib.hid hdf
          clear hdf
          generalize So.crash L = L5 at *
          have hm5 : k ≤ k + 1 := by omega
          obtain ⟨w3, hw3⟩ : ∃ x, x = ((wr.setCell ⟨X, 0, none⟩ (.slice A3 8 c3)).setCell ⟨X, 1, none⟩ (.slice A4 12 c4)) := ⟨_, rfl⟩
          rw [← hw3] at hs4
          have HS3 := Lib.hid hs4
          have HW3 := Lib.hid hw3
          clear hw3 hs4
          obtain ⟨z0, z1, z2, z3⟩ := hx4.cells
          have hfz4 := fun i => free_block hx4 i none
          clear hx4
          go_wp2_with (first
            | (rw [← HW3.out]; clear HW3 x0 x1 x2 x3 hfz z0 z1 z2 z3 hfz4)
            | (go_at_call 22; (with_reducible refine useC (HDF.out w3 HS3.out.disk) ?_); rintro e w5 ha; obtain ⟨rfl, hs⟩ := HS3.out.turn ha HOK.out; obtain ⟨A5, c5, A6, c6, A7, c7, A8, c8, HS5⟩ : ∃ A5 c5 A6 c6 A7 c7 A8 c8, Hid (SxS w w5 b X (.slice A5 8 c5) (.slice A6 12 c6) (.slice A7 8 c7) (.slice A8 12 c8) L5 L5 k) := ⟨_, _, _, _, _, _, _, _, hs⟩; clear ha hs; go_wp2_with fail))
          clear HS3 HDF HOK hS
          have HIM := Lib.hid (so_Images w5 b L5 HS5.out.disk HS5.out.ok.shp.len)
          go_wp2_with (go_at_call 25; (with_reducible refine useC HIM.out ?_); rintro e w6 ⟨v1, v2, v3, v4, g1, g2, g3, g4, rfl, hs1, hs2, hs3, hs4, hf, -⟩; have HS6 := Lib.hid (HS5.out.step hf); have HI1 := Lib.hid hs1; have HI2 := Lib.hid hs2; have HI3 := Lib.hid hs3; have HI4 := Lib.hid hs4; clear hs1 hs2 hs3 hs4 hf; obtain ⟨⟨y0, y1, y2, y3⟩, -⟩ := HS6.out.cells; go_wp2_with fail)
          clear HIM
          have hs6 := HS6.out
          obtain ⟨ga, -, hsa⟩ := hs6.ra
          obtain ⟨gb, -, hsb⟩ := hs6.rb
          obtain ⟨gc, -, hsc⟩ := hs6.rc
          obtain ⟨gd, -, hsd⟩ := hs6.rd
          have HQ := Lib.hid (fun W (hW : Fr [] w6 W) => And.intro (ints_same W _ _ g1 ga _ (HI1.out.fr hW (by simp)) (hsa.fr hW (by simp))) (And.intro (ints_same W _ _ g2 gb _ (HI2.out.fr hW (by simp)) (hsb.fr hW (by simp))) (And.intro (ints_same W _ _ g3 gc _ (HI3.out.fr hW (by simp)) (hsc.fr hW (by simp))) (ints_same W _ _ g4 gd _ (HI4.out.fr hW (by simp)) (hsd.fr hW (by simp))))))
          have HT1 := Lib.hid (HQ.out w6 (Fr.refl _ _)).1
          clear hs6 hsa hsb hsc hsd HI1 HI2 HI3 HI4
          go_wp2_with (first
            | (go_at_call 26; (with_reducible refine useC HT1.out ?_); rintro e w7 ⟨rfl, hd⟩; have Q7 := Lib.hid (hd.fr []); clear hd y0 y1 y2 y3; have HS7 := Lib.hid (HS6.out.step Q7.out); obtain ⟨⟨y0, y1, y2, y3⟩, -⟩ := HS7.out.cells; have HT2 := Lib.hid (HQ.out w7 Q7.out).2.1)
            | (go_at_call 26; (with_reducible refine useC HT2.out ?_); rintro e w8 ⟨rfl, hd⟩; have Q8 := Lib.hid (Q7.out.trans (hd.fr [])); clear hd y0 y1 y2 y3; have HS8 := Lib.hid (HS6.out.step Q8.out); obtain ⟨⟨y0, y1, y2, y3⟩, -⟩ := HS8.out.cells; have HT3 := Lib.hid (HQ.out w8 Q8.out).2.2.1)
            | (go_at_call 26; (with_reducible refine useC HT3.out ?_); rintro e w9 ⟨rfl, hd⟩; have Q9 := Lib.hid (Q8.out.trans (hd.fr [])); clear hd y0 y1 y2 y3; have HS9 := Lib.hid (HS6.out.step Q9.out); obtain ⟨⟨y0, y1, y2, y3⟩, -⟩ := HS9.out.cells; have HT4 := Lib.hid (HQ.out w9 Q9.out).2.2.2)
            | (go_at_call 26; (with_reducible refine useC HT4.out ?_); rintro e w10 ⟨rfl, hd⟩; have Q10 := Lib.hid (Q9.out.trans (hd.fr [])); clear hd; have HS10 := Lib.hid ((HS6.out.step Q10.out).mono hm5)))
          go_roundw
          case rel => exact ⟨k + 1, by omega, by omega, by go_num, _, _, _, _, _, _, _, _, _, HS10⟩
          case measure => (simp [intOf]; try omega)
        · by_cases hl3 : (nthR ls k).length = 3
          · have b1 : (((nthR ls k).length : Int) == 1) = false := beq_eq_false_iff_ne.2 (by omega)
            have b2 : (((nthR ls k).length : Int) == 2) = false := beq_eq_false_iff_ne.2 (by omega)
            obtain rfl := hA' (by omega)
            have c0 := hc' 0 (by omega)
            have c1' := hc' 1 (by omega)
            have c2' := hc' 2 (by omega)
            rw [Nat.add_zero] at c0
            have HC0 := Lib.hid (fun W (hW : Fr [] w W) => And.intro (hW.cell c0 (by simp)) (And.intro (hW.cell c1' (by simp)) (hW.cell c2' (by simp))))
            rw [hl3] at hcell b1 b2
            clear hc' hA' c0 c1' c2'
            generalize nth (nthR ls k) 0 = z0 at *
            generalize nth (nthR ls k) 1 = z1 at *
            generalize nth (nthR ls k) 2 = z2 at *
            obtain ⟨c0, c1', c2'⟩ := HC0.out wr hS.out.fr
            by_cases hz : 0 ≤ z0 ∧ z0 ≤ 3
            · have e1 := decide_eq_true hz
              have HSD := Lib.hid (hS.out.step (Fr.refl [] wr).drew)
              have hcx : ∀ W, SxS w W b X (.slice A1 8 c1) (.slice A2 12 c2) (.slice A3 8 c3) (.slice A4 12 c4) L L k → Calls Tryd.prog 23 #[.agg #[.slice A1 8 c1, .slice A2 12 c2, .slice A3 8 c3, .slice A4 12 c4], .int .i64 z0, .int .i64 z1, .int .i64 z2] W (SxDn (fun g => g ≠ b ∧ g ≠ X) (So4.of (So.act L z0 z1 z2).1) (So.act L z0 z1 z2).2 W) := fun W hW => sx_Do W _ _ L k z0 z1 z2 hz hW.val hW.ok (by omega) hW.new
              have HCX := Lib.hid hcx
              have HOK := Lib.hid (So.act_ok hS.out.ok z0 z1 z2).1
              have hdf : ∀ W, SoD W b L → Fr [] w W → Calls Tryd.prog 24 #[.pointer (some ⟨b, 0, none⟩), .slice (some ⟨kb, o', none⟩) 3 c'] W (SoAns b (errV (So.act L z0 z1 z2).2) (So.act L z0 z1 z2).1 W) := fun W hW hF => so_done W b L k kb o' c' z0 z1 z2 hW hS.out.ok (by omega) (HC0.out W hF).1 (HC0.out W hF).2.1 (HC0.out W hF).2.2
              have HDF := Lib.hid hdf
              have HM4 := Lib.hid (So4.of_ok hS.out.ok.shp.len)
              clear hdf hcx hz
              generalize So.act L z0 z1 z2 = Z at *
              obtain ⟨L5, n5⟩ := Z
              dsimp only at HCX HOK HDF
              have H4 := Lib.hid (So4.of_ok HOK.out.shp.len)
              have HERR := Lib.hid (fun W (hW : Fr [] w W) => serr_ok W n5 (HE.out W hW))
              have HX0 := Lib.hid (And.intro HSD.out.box HSD.out.fr)
              go_wp2_with (first
                | (go_at_call 10; (with_reducible refine useC (in3_is z0 0 3 true _ e1) ?_); rintro e wr ⟨rfl, rfl⟩; go_wp2_with fail))
              (refine wp_region_fork (fun W => SxX W X (.slice A1 8 c1) (.slice A2 12 c2) (.slice A3 8 c3) (.slice A4 12 c4) ∧ Fr [] w W) 16 (Plan.take 0 (.take 1 (.take 2 (.take 3 (.take 4 (.take 5 (.take 6 (.take 7 (.take 8 (.take 9 (.both 10 (.take 11 (.take 12 (.take 13 (.walk 14 (.walk 15 .stop))))) 14 (.walk 10 (.take 11 (.take 12 (.take 13 (.walk 15 .stop)))))))))))))))) (by kernel_rfl) (by kernel_rfl) (HX0.out) ?_; simp only [pickPlan, List.getD_cons_zero, List.getD_cons_succ, List.drop_succ_cons, List.drop_zero])
              (iterate 10 (first | (refine wpPlan_take (v := ?_) (by rfl) ?_ ?_; rotate_left; (focus (intro W hW; obtain ⟨⟨y0, y1, y2, y3⟩, c0, c1', c2'⟩ := And.intro hW.1.cells (HC0.out W hW.2); go_simp; (try with_reducible rfl); done)); try simp only [Act.put, List.setIfInBounds_toArray, List.set_cons_zero, List.set_cons_succ]) | (refine wpPlan_leave (by rfl) ?_; try simp only [Act.put, List.setIfInBounds_toArray, List.set_cons_zero, List.set_cons_succ])))
              clear x0 x1 x2 x3 hfz c0 c1' c2' e1 HX0
              revert HSD
              generalize wr.drew = wD
              intro HSD
              refine wpPlan_both ?_ ?_
              · skip
                go_wp2_with (go_at_call 23; (with_reducible refine useC (HCX.out _ HSD.out) ?_); rintro e w2 ⟨v2, rfl, hv2, hf2⟩; obtain ⟨A5, c5, A6, c6, A7, c7, A8, c8, rfl⟩ := hv2.form H4.out; have HS2 := Lib.hid (HSD.out.step hf2); have HV2 := Lib.hid hv2; have HF2 := Lib.hid hf2; clear hv2 hf2)
                refine ForkQ.mk (⟨HS2.out.box, HS2.out.fr⟩) ?_
                (iterate 3 (first | (refine wpPlan_take (v := ?_) (by rfl) ?_ ?_; rotate_left; (focus (intro W hW; skip; go_simp; (try with_reducible rfl); done)); try simp only [Act.put, List.setIfInBounds_toArray, List.set_cons_zero, List.set_cons_succ]) | (refine wpPlan_leave (by rfl) ?_; try simp only [Act.put, List.setIfInBounds_toArray, List.set_cons_zero, List.set_cons_succ])))
                refine wpPlan_walk ?_
                go_wp2_with fail
                have HXF := Lib.hid (SxF.late (HS2.out.mono (Nat.le_succ k)) HV2.out)
                clear HV2 HS2 HF2 HSD
                revert HXF
                generalize w2.alloc (.cells #[.slice none 0 0, .slice none 0 0, .slice none 0 0, .slice none 0 0] 50) = wF
                generalize w2.heap.size = Y
                intro HXF
                refine ForkQ.mk (⟨HXF.out.s.box, HXF.out.s.fr⟩) ?_
                obtain ⟨hy7, hs7, hv7⟩ := HXF.out.lay H4.out HM4.out
                have hs8 := hs7.put (Fr.refl _ _) hv7 HOK.out
                obtain ⟨⟨y0, y1, y2, y3⟩, hfy⟩ : (wF.cell? ⟨Y, 0, none⟩ = some (.slice none 0 0) ∧ wF.cell? ⟨Y, 1, none⟩ = some (.slice none 0 0) ∧ wF.cell? ⟨Y, 2, none⟩ = some (.slice none 0 0) ∧ wF.cell? ⟨Y, 3, none⟩ = some (.slice none 0 0)) ∧ ∀ i, wF.frozen? ⟨Y, i, none⟩ = false := ⟨HXF.out.y.cells, fun i => free_block HXF.out.y i none⟩
                obtain ⟨w7, hw7⟩ : ∃ x, x = ((((wF.setCell ⟨Y, 0, none⟩ (.slice A5 8 c5)).setCell ⟨Y, 1, none⟩ (.slice A6 12 c6)).setCell ⟨Y, 2, none⟩ (.slice A7 8 c7)).setCell ⟨Y, 3, none⟩ (.slice A8 12 c8)) := ⟨_, rfl⟩
                rw [← hw7] at hy7 hs7 hv7 hs8
                obtain ⟨w8, hw8⟩ : ∃ x, x = ((((w7.setCell ⟨X, 0, none⟩ (.slice A5 8 c5)).setCell ⟨X, 1, none⟩ (.slice A6 12 c6)).setCell ⟨X, 2, none⟩ (.slice A7 8 c7)).setCell ⟨X, 3, none⟩ (.slice A8 12 c8)) := ⟨_, rfl⟩
                rw [← hw8] at hs8
                have HW7 := Lib.hid hw7
                have HW8 := Lib.hid hw8
                have HY7 := Lib.hid hy7
                have HS7 := Lib.hid hs7
                have HS8 := Lib.hid hs8
                clear hw7 hw8 hy7 hs7 hv7 hs8 HXF
                have HDN8 := Lib.hid (HDF.out w8 HS8.out.disk HS8.out.fr)
                refine wpPlan_walk ?_
                go_wp2_with fail
                rw [← HW7.out]
                clear HW7 y0 y1 y2 y3 hfy
                refine ForkQ.mk (⟨HS7.out.box, HS7.out.fr⟩) ?_
                refine wpPlan_nil ?_
                obtain ⟨x0, x1, x2, x3⟩ := HS7.out.box.cells
                have hfz := fun i => free_block HS7.out.box i none
                obtain ⟨y0, y1, y2, y3⟩ := HY7.out.cells
                go_wp2_with (first
                  | (rw [← HW8.out]; clear HW8 x0 x1 x2 x3 hfz y0 y1 y2 y3)
                  | (go_at_call 24; (with_reducible refine useC HDN8.out ?_); rintro e w9 ha; obtain ⟨rfl, hs⟩ := HS8.out.turn ha HOK.out; have HS9 := Lib.hid hs; clear ha hs; have HER9 := Lib.hid (HERR.out w9 HS9.out.fr))
                  | (go_at_call 9; (with_reducible refine useC HER9.out ?_); rintro e w5 ⟨rfl, hf⟩; have HS5 := Lib.hid (HS9.out.step hf); clear hf; go_wp2_with fail))
                have hm5 : k + 1 ≤ k + 1 := Nat.le_refl _
                clear HS7 HS8 HY7 HDN8 HER9 HS9 HERR HDF HOK H4 HM4 HC0 HCX hS
                have HIM := Lib.hid (so_Images w5 b L5 HS5.out.disk HS5.out.ok.shp.len)
                go_wp2_with (go_at_call 25; (with_reducible refine useC HIM.out ?_); rintro e w6 ⟨v1, v2, v3, v4, g1, g2, g3, g4, rfl, hs1, hs2, hs3, hs4, hf, -⟩; have HS6 := Lib.hid (HS5.out.step hf); have HI1 := Lib.hid hs1; have HI2 := Lib.hid hs2; have HI3 := Lib.hid hs3; have HI4 := Lib.hid hs4; clear hs1 hs2 hs3 hs4 hf; obtain ⟨⟨y0, y1, y2, y3⟩, -⟩ := HS6.out.cells; go_wp2_with fail)
                clear HIM
                have hs6 := HS6.out
                obtain ⟨ga, -, hsa⟩ := hs6.ra
                obtain ⟨gb, -, hsb⟩ := hs6.rb
                obtain ⟨gc, -, hsc⟩ := hs6.rc
                obtain ⟨gd, -, hsd⟩ := hs6.rd
                have HQ := Lib.hid (fun W (hW : Fr [] w6 W) => And.intro (ints_same W _ _ g1 ga _ (HI1.out.fr hW (by simp)) (hsa.fr hW (by simp))) (And.intro (ints_same W _ _ g2 gb _ (HI2.out.fr hW (by simp)) (hsb.fr hW (by simp))) (And.intro (ints_same W _ _ g3 gc _ (HI3.out.fr hW (by simp)) (hsc.fr hW (by simp))) (ints_same W _ _ g4 gd _ (HI4.out.fr hW (by simp)) (hsd.fr hW (by simp))))))
                have HT1 := Lib.hid (HQ.out w6 (Fr.refl _ _)).1
                clear hs6 hsa hsb hsc hsd HI1 HI2 HI3 HI4
                go_wp2_with (first
                  | (go_at_call 26; (with_reducible refine useC HT1.out ?_); rintro e w7 ⟨rfl, hd⟩; have Q7 := Lib.hid (hd.fr []); clear hd y0 y1 y2 y3; have HS7 := Lib.hid (HS6.out.step Q7.out); obtain ⟨⟨y0, y1, y2, y3⟩, -⟩ := HS7.out.cells; have HT2 := Lib.hid (HQ.out w7 Q7.out).2.1)
                  | (go_at_call 26; (with_reducible refine useC HT2.out ?_); rintro e w8 ⟨rfl, hd⟩; have Q8 := Lib.hid (Q7.out.trans (hd.fr [])); clear hd y0 y1 y2 y3; have HS8 := Lib.hid (HS6.out.step Q8.out); obtain ⟨⟨y0, y1, y2, y3⟩, -⟩ := HS8.out.cells; have HT3 := Lib.hid (HQ.out w8 Q8.out).2.2.1)
                  | (go_at_call 26; (with_reducible refine useC HT3.out ?_); rintro e w9 ⟨rfl, hd⟩; have Q9 := Lib.hid (Q8.out.trans (hd.fr [])); clear hd y0 y1 y2 y3; have HS9 := Lib.hid (HS6.out.step Q9.out); obtain ⟨⟨y0, y1, y2, y3⟩, -⟩ := HS9.out.cells; have HT4 := Lib.hid (HQ.out w9 Q9.out).2.2.2)
                  | (go_at_call 26; (with_reducible refine useC HT4.out ?_); rintro e w10 ⟨rfl, hd⟩; have Q10 := Lib.hid (Q9.out.trans (hd.fr [])); clear hd; have HS10 := Lib.hid ((HS6.out.step Q10.out).mono hm5)))
                go_roundw
                case rel => exact ⟨k + 1, by omega, by omega, by go_num, _, _, _, _, _, _, _, _, _, HS10⟩
                case measure => (simp [intOf]; try omega)
              · skip
                go_wp2_with fail
                obtain ⟨wB, hwB⟩ : ∃ x, x = wD.alloc (.cells #[.slice none 0 0, .slice none 0 0, .slice none 0 0, .slice none 0 0] 50) := ⟨_, rfl⟩
                have HYB : Hid (SxX wB wD.heap.size (.slice none 0 0) (.slice none 0 0) (.slice none 0 0) (.slice none 0 0) ∧ Fr [] wD wB ∧ w.heap.size ≤ wD.heap.size) := by
                  rw [hwB]
                  exact ⟨heap_alloc_new wD _, (Fr.refl _ _).alloc _, HSD.out.fr.size⟩
                rw [← hwB]
                clear hwB
                have HSB := Lib.hid (HSD.out.step HYB.out.2.1)
                generalize wD.heap.size = Y at *
                refine ForkQ.mk (⟨HSB.out.box, HSB.out.fr⟩) ?_
                refine wpPlan_walk ?_
                go_wp2_with (go_at_call 23; (with_reducible refine useC (HCX.out _ HSB.out) ?_); rintro e w2 ⟨v2, rfl, hv2, hf2⟩; obtain ⟨A5, c5, A6, c6, A7, c7, A8, c8, rfl⟩ := hv2.form H4.out; have HS2 := Lib.hid (HSB.out.step hf2); have HV2 := Lib.hid hv2; have HF2 := Lib.hid hf2; clear hv2 hf2)
                have HXF : Hid (SxF w w2 b X Y (.slice A1 8 c1) (.slice A2 12 c2) (.slice A3 8 c3) (.slice A4 12 c4) (.slice A5 8 c5) (.slice A6 12 c6) (.slice A7 8 c7) (.slice A8 12 c8) L L L5 (k + 1)) := ⟨HS2.out.mono (Nat.le_succ k), HV2.out, HF2.out.get HYB.out.1 (by simp), HYB.out.2.2⟩
                obtain ⟨wF, hwF⟩ : ∃ x, x = w2 := ⟨_, rfl⟩
                subst hwF
                clear HV2 HS2 HF2 HSB HYB HSD
                refine ForkQ.mk (⟨HXF.out.s.box, HXF.out.s.fr⟩) ?_
                (iterate 3 (first | (refine wpPlan_take (v := ?_) (by rfl) ?_ ?_; rotate_left; (focus (intro W hW; skip; go_simp; (try with_reducible rfl); done)); try simp only [Act.put, List.setIfInBounds_toArray, List.set_cons_zero, List.set_cons_succ]) | (refine wpPlan_leave (by rfl) ?_; try simp only [Act.put, List.setIfInBounds_toArray, List.set_cons_zero, List.set_cons_succ])))
                obtain ⟨hy7, hs7, hv7⟩ := HXF.out.lay H4.out HM4.out
                have hs8 := hs7.put (Fr.refl _ _) hv7 HOK.out
                obtain ⟨⟨y0, y1, y2, y3⟩, hfy⟩ : (wF.cell? ⟨Y, 0, none⟩ = some (.slice none 0 0) ∧ wF.cell? ⟨Y, 1, none⟩ = some (.slice none 0 0) ∧ wF.cell? ⟨Y, 2, none⟩ = some (.slice none 0 0) ∧ wF.cell? ⟨Y, 3, none⟩ = some (.slice none 0 0)) ∧ ∀ i, wF.frozen? ⟨Y, i, none⟩ = false := ⟨HXF.out.y.cells, fun i => free_block HXF.out.y i none⟩
                obtain ⟨w7, hw7⟩ : ∃ x, x = ((((wF.setCell ⟨Y, 0, none⟩ (.slice A5 8 c5)).setCell ⟨Y, 1, none⟩ (.slice A6 12 c6)).setCell ⟨Y, 2, none⟩ (.slice A7 8 c7)).setCell ⟨Y, 3, none⟩ (.slice A8 12 c8)) := ⟨_, rfl⟩
                rw [← hw7] at hy7 hs7 hv7 hs8
                obtain ⟨w8, hw8⟩ : ∃ x, x = ((((w7.setCell ⟨X, 0, none⟩ (.slice A5 8 c5)).setCell ⟨X, 1, none⟩ (.slice A6 12 c6)).setCell ⟨X, 2, none⟩ (.slice A7 8 c7)).setCell ⟨X, 3, none⟩ (.slice A8 12 c8)) := ⟨_, rfl⟩
                rw [← hw8] at hs8
                have HW7 := Lib.hid hw7
                have HW8 := Lib.hid hw8
                have HY7 := Lib.hid hy7
                have HS7 := Lib.hid hs7
                have HS8 := Lib.hid hs8
                clear hw7 hw8 hy7 hs7 hv7 hs8 HXF
                have HDN8 := Lib.hid (HDF.out w8 HS8.out.disk HS8.out.fr)
                refine wpPlan_walk ?_
                go_wp2_with fail
                rw [← HW7.out]
                clear HW7 y0 y1 y2 y3 hfy
                refine ForkQ.mk (⟨HS7.out.box, HS7.out.fr⟩) ?_
                refine wpPlan_nil ?_
                obtain ⟨x0, x1, x2, x3⟩ := HS7.out.box.cells
                have hfz := fun i => free_block HS7.out.box i none
                obtain ⟨y0, y1, y2, y3⟩ := HY7.out.cells
                go_wp2_with (first
                  | (rw [← HW8.out]; clear HW8 x0 x1 x2 x3 hfz y0 y1 y2 y3)
                  | (go_at_call 24; (with_reducible refine useC HDN8.out ?_); rintro e w9 ha; obtain ⟨rfl, hs⟩ := HS8.out.turn ha HOK.out; have HS9 := Lib.hid hs; clear ha hs; have HER9 := Lib.hid (HERR.out w9 HS9.out.fr))
                  | (go_at_call 9; (with_reducible refine useC HER9.out ?_); rintro e w5 ⟨rfl, hf⟩; have HS5 := Lib.hid (HS9.out.step hf); clear hf; go_wp2_with fail))
                have hm5 : k + 1 ≤ k + 1 := Nat.le_refl _
                clear HS7 HS8 HY7 HDN8 HER9 HS9 HERR HDF HOK H4 HM4 HC0 HCX hS
                have HIM := Lib.hid (so_Images w5 b L5 HS5.out.disk HS5.out.ok.shp.len)
                go_wp2_with (go_at_call 25; (with_reducible refine useC HIM.out ?_); rintro e w6 ⟨v1, v2, v3, v4, g1, g2, g3, g4, rfl, hs1, hs2, hs3, hs4, hf, -⟩; have HS6 := Lib.hid (HS5.out.step hf); have HI1 := Lib.hid hs1; have HI2 := Lib.hid hs2; have HI3 := Lib.hid hs3; have HI4 := Lib.hid hs4; clear hs1 hs2 hs3 hs4 hf; obtain ⟨⟨y0, y1, y2, y3⟩, -⟩ := HS6.out.cells; go_wp2_with fail)
                clear HIM
                have hs6 := HS6.out
                obtain ⟨ga, -, hsa⟩ := hs6.ra
                obtain ⟨gb, -, hsb⟩ := hs6.rb
                obtain ⟨gc, -, hsc⟩ := hs6.rc
                obtain ⟨gd, -, hsd⟩ := hs6.rd
                have HQ := Lib.hid (fun W (hW : Fr [] w6 W) => And.intro (ints_same W _ _ g1 ga _ (HI1.out.fr hW (by simp)) (hsa.fr hW (by simp))) (And.intro (ints_same W _ _ g2 gb _ (HI2.out.fr hW (by simp)) (hsb.fr hW (by simp))) (And.intro (ints_same W _ _ g3 gc _ (HI3.out.fr hW (by simp)) (hsc.fr hW (by simp))) (ints_same W _ _ g4 gd _ (HI4.out.fr hW (by simp)) (hsd.fr hW (by simp))))))
                have HT1 := Lib.hid (HQ.out w6 (Fr.refl _ _)).1
                clear hs6 hsa hsb hsc hsd HI1 HI2 HI3 HI4
                go_wp2_with (first
                  | (go_at_call 26; (with_reducible refine useC HT1.out ?_); rintro e w7 ⟨rfl, hd⟩; have Q7 := Lib.hid (hd.fr []); clear hd y0 y1 y2 y3; have HS7 := Lib.hid (HS6.out.step Q7.out); obtain ⟨⟨y0, y1, y2, y3⟩, -⟩ := HS7.out.cells; have HT2 := Lib.hid (HQ.out w7 Q7.out).2.1)
                  | (go_at_call 26; (with_reducible refine useC HT2.out ?_); rintro e w8 ⟨rfl, hd⟩; have Q8 := Lib.hid (Q7.out.trans (hd.fr [])); clear hd y0 y1 y2 y3; have HS8 := Lib.hid (HS6.out.step Q8.out); obtain ⟨⟨y0, y1, y2, y3⟩, -⟩ := HS8.out.cells; have HT3 := Lib.hid (HQ.out w8 Q8.out).2.2.1)
                  | (go_at_call 26; (with_reducible refine useC HT3.out ?_); rintro e w9 ⟨rfl, hd⟩; have Q9 := Lib.hid (Q8.out.trans (hd.fr [])); clear hd y0 y1 y2 y3; have HS9 := Lib.hid (HS6.out.step Q9.out); obtain ⟨⟨y0, y1, y2, y3⟩, -⟩ := HS9.out.cells; have HT4 := Lib.hid (HQ.out w9 Q9.out).2.2.2)
                  | (go_at_call 26; (with_reducible refine useC HT4.out ?_); rintro e w10 ⟨rfl, hd⟩; have Q10 := Lib.hid (Q9.out.trans (hd.fr [])); clear hd; have HS10 := Lib.hid ((HS6.out.step Q10.out).mono hm5)))
                go_roundw
                case rel => exact ⟨k + 1, by omega, by omega, by go_num, _, _, _, _, _, _, _, _, _, HS10⟩
                case measure => (simp [intOf]; try omega)
            · have e1 := decide_eq_false hz
              clear hz
              go_wp2_with (go_at_call 10; (with_reducible refine useC (in3_is z0 0 3 false _ e1) ?_); rintro e wr ⟨rfl, rfl⟩)
              go_roundw
              case rel => exact ⟨k + 1, by omega, by omega, by go_num, _, _, _, _, _, _, _, _, _, hS.out.mono (Nat.le_succ k)⟩
              case measure => (simp [intOf]; try omega)
          · have b1 : (((nthR ls k).length : Int) == 1) = false := beq_eq_false_iff_ne.2 (by omega)
            have b2 : (((nthR ls k).length : Int) == 2) = false := beq_eq_false_iff_ne.2 (by omega)
            have b3 : (((nthR ls k).length : Int) == 3) = false := beq_eq_false_iff_ne.2 (by omega)
            clear hc' hA'
            obtain ⟨w5, hw5⟩ : ∃ x, x = wr := ⟨_, rfl⟩
            subst hw5
            have hm5 : k ≤ k + 1 := by omega
            obtain ⟨L5, A5, c5, A6, c6, A7, c7, A8, c8, HS5⟩ : ∃ L5 A5 c5 A6 c6 A7 c7 A8 c8, Hid (SxS w w5 b X (.slice A5 8 c5) (.slice A6 12 c6) (.slice A7 8 c7) (.slice A8 12 c8) L5 L5 k) := ⟨_, _, _, _, _, _, _, _, _, hS⟩
            clear x0 x1 x2 x3 hfz hS
            have HIM := Lib.hid (so_Images w5 b L5 HS5.out.disk HS5.out.ok.shp.len)
            go_wp2_with (go_at_call 25; (with_reducible refine useC HIM.out ?_); rintro e w6 ⟨v1, v2, v3, v4, g1, g2, g3, g4, rfl, hs1, hs2, hs3, hs4, hf, -⟩; have HS6 := Lib.hid (HS5.out.step hf); have HI1 := Lib.hid hs1; have HI2 := Lib.hid hs2; have HI3 := Lib.hid hs3; have HI4 := Lib.hid hs4; clear hs1 hs2 hs3 hs4 hf; obtain ⟨⟨y0, y1, y2, y3⟩, -⟩ := HS6.out.cells; go_wp2_with fail)
            clear HIM
            have hs6 := HS6.out
            obtain ⟨ga, -, hsa⟩ := hs6.ra
            obtain ⟨gb, -, hsb⟩ := hs6.rb
            obtain ⟨gc, -, hsc⟩ := hs6.rc
            obtain ⟨gd, -, hsd⟩ := hs6.rd
            have HQ := Lib.hid (fun W (hW : Fr [] w6 W) => And.intro (ints_same W _ _ g1 ga _ (HI1.out.fr hW (by simp)) (hsa.fr hW (by simp))) (And.intro (ints_same W _ _ g2 gb _ (HI2.out.fr hW (by simp)) (hsb.fr hW (by simp))) (And.intro (ints_same W _ _ g3 gc _ (HI3.out.fr hW (by simp)) (hsc.fr hW (by simp))) (ints_same W _ _ g4 gd _ (HI4.out.fr hW (by simp)) (hsd.fr hW (by simp))))))
            have HT1 := Lib.hid (HQ.out w6 (Fr.refl _ _)).1
            clear hs6 hsa hsb hsc hsd HI1 HI2 HI3 HI4
            go_wp2_with (first
              | (go_at_call 26; (with_reducible refine useC HT1.out ?_); rintro e w7 ⟨rfl, hd⟩; have Q7 := Lib.hid (hd.fr []); clear hd y0 y1 y2 y3; have HS7 := Lib.hid (HS6.out.step Q7.out); obtain ⟨⟨y0, y1, y2, y3⟩, -⟩ := HS7.out.cells; have HT2 := Lib.hid (HQ.out w7 Q7.out).2.1)
              | (go_at_call 26; (with_reducible refine useC HT2.out ?_); rintro e w8 ⟨rfl, hd⟩; have Q8 := Lib.hid (Q7.out.trans (hd.fr [])); clear hd y0 y1 y2 y3; have HS8 := Lib.hid (HS6.out.step Q8.out); obtain ⟨⟨y0, y1, y2, y3⟩, -⟩ := HS8.out.cells; have HT3 := Lib.hid (HQ.out w8 Q8.out).2.2.1)
              | (go_at_call 26; (with_reducible refine useC HT3.out ?_); rintro e w9 ⟨rfl, hd⟩; have Q9 := Lib.hid (Q8.out.trans (hd.fr [])); clear hd y0 y1 y2 y3; have HS9 := Lib.hid (HS6.out.step Q9.out); obtain ⟨⟨y0, y1, y2, y3⟩, -⟩ := HS9.out.cells; have HT4 := Lib.hid (HQ.out w9 Q9.out).2.2.2)
              | (go_at_call 26; (with_reducible refine useC HT4.out ?_); rintro e w10 ⟨rfl, hd⟩; have Q10 := Lib.hid (Q9.out.trans (hd.fr [])); clear hd; have HS10 := Lib.hid ((HS6.out.step Q10.out).mono hm5)))
            go_roundw
            case rel => exact ⟨k + 1, by omega, by omega, by go_num, _, _, _, _, _, _, _, _, _, HS10⟩
            case measure => (simp [intOf]; try omega)
    · have hout : ¬ (k : Int) < ls.length ∨ ((k : Int) < ls.length ∧ ¬ (k : Int) < 60) := by omega
      rcases hout with hout | ⟨hout, hout'⟩
      all_goals
        go_wp2
        go_ret
        exact ⟨rfl, hS.out.fr⟩
end Go.Proofs.YtcldaaebncclmaaDoor
