/- The document's answer for package undo: Write. -/
import Derived.Test.YtmhmbgkpojgbbabDoorUxRef
import Derived.Test.YtmhmbgkpojgbbabDoorSpread
import Derived.Test.YtmhmbgkpojgbbabDoorMix
namespace Go.Proofs.YtmhmbgkpojgbbabDoor
open Go.RowKit

theorem ux_put {w : World} {B : Nat} {a b c : Value} (h : w.heap[B]? = some (.cells #[a, b, c] 36)) : w.cell? ⟨B, 0, none⟩ = some a ∧ w.cell? ⟨B, 1, none⟩ = some b ∧ w.cell? ⟨B, 2, none⟩ = some c := put_cells h
set_option maxRecDepth 100000 in
set_option maxHeartbeats 4000000 in
theorem ux_Write (w : World) (G : Nat → Prop) (v : Value) (d : Un.D) (t b x : Int) (hv : UxV G w v d) (hO : Un.OK d) (hG : ∀ k, w.heap.size ≤ k → G k) :
    Calls Tryd.prog 9 #[v, .agg #[.int .i64 t, .int .i64 b, .int .i64 x]] w (UxDn G (Un.write d t b x) (Un.wrErr d t b x) w) := by
  have hV := hv
  obtain ⟨va, vc, vl, g1, g2, g3, rfl, hg, ha, hc, hl⟩ := hv
  obtain ⟨A1, o1, c1, rfl, -, hA1, hc1⟩ := ha.form
  obtain ⟨A2, o2, c2, rfl, -, hA2, hc2⟩ := hc.form
  obtain ⟨A3, o3, c3, rfl, -, -, -⟩ := hl.form
  obtain rfl := hA1 (by rw [hO.blk]; decide)
  obtain rfl := hA2 (by rw [hO.busy]; decide)
  obtain ⟨hsz, fA, y0, y1, y2⟩ := three_allocs w (.cells #[.slice (some ⟨g1, o1, none⟩) d.blk.length c1, .slice (some ⟨g2, o2, none⟩) d.busy.length c2, .slice A3 d.was.length c3] 28) (.cells #[.int .i64 t, .int .i64 b, .int .i64 x] 36) (.cells #[.slice none 0 0, .slice none 0 0, .slice none 0 0] 28)
  go_enter Tryd.func9, Tryd.ntmps9
  go_wp2_with fail
  generalize hW : (((w.alloc (.cells #[.slice (some ⟨g1, o1, none⟩) d.blk.length c1, .slice (some ⟨g2, o2, none⟩) d.busy.length c2, .slice A3 d.was.length c3] 28)).alloc (.cells #[.int .i64 t, .int .i64 b, .int .i64 x] 36)).alloc (.cells #[.slice none 0 0, .slice none 0 0, .slice none 0 0] 28)) = W0 at *
  clear hW
  have hpos : w.heap.size < w.heap.size + 1 ∧ w.heap.size + 1 < w.heap.size + 1 + 1 := by omega
  obtain ⟨X, hX⟩ : ∃ X, X = w.heap.size := ⟨_, rfl⟩
  rw [← hX] at hsz y0 y1 y2 ⊢
  obtain ⟨X1, hX1⟩ : ∃ X1, X1 = X + 1 := ⟨_, rfl⟩
  rw [← hX1] at y1 y2 ⊢
  obtain ⟨X2, hX2⟩ : ∃ X2, X2 = X1 + 1 := ⟨_, rfl⟩
  rw [← hX2] at y2 ⊢
  have HU0 := Lib.hid (UxW.start hV hO hG fA y0 y2 (by omega) (by omega) (by omega))
  have hne : X ≠ X1 ∧ X2 ≠ X1 := by omega
  have HNE := Lib.hid hne
  have HGE : Hid (w.heap.size ≤ X1) := by show _ ≤ _; omega
  have HP0 := Lib.hid y1
  have HC1 := Lib.hid (fun W (hW : Fr [] w W) i (hi : i < d.blk.length) => hW.cell (hc1 i hi) (by simp))
  have HC2 := Lib.hid (fun W (hW : Fr [] w W) i (hi : i < d.busy.length) => hW.cell (hc2 i hi) (by simp))
  have HLR := Lib.hid (fun W (hW : Fr [] w W) => hl.fr hW (by simp))
  have h60 := hO.len
  have HB8 := Lib.hid (And.intro hO.blk hO.busy)
  clear hX hX1 hX2 hne hpos hV hg ha hc hl hA1 hA2 hc1 hc2 fA y0 y1 y2 hsz hO hG
  obtain ⟨p0, p1, p2⟩ := ux_put HP0.out
  obtain ⟨⟨b0, b1, b2⟩, hfx⟩ := HU0.out.cells
  obtain ⟨o0, o1', o2'⟩ := UxX.cells HU0.out.out
  have hfo := fun i => free_block HU0.out.out i none
  have HERR : Hid (∀ (cd : Int), Un.wrErr d t b x = cd → cd ≠ 0 → Un.write d t b x = d) := fun cd h h0 => by unfold Un.write; rw [if_neg (by rw [h]; exact h0)]
  by_cases ht : Un.okT t
  · have e1 : decide (0 ≤ t ∧ t ≤ 19) = true := decide_eq_true ht
    by_cases hb : 0 ≤ b ∧ b ≤ 7
    · have e2 := decide_eq_true hb
      by_cases hx : 0 ≤ x ∧ x ≤ 1000
      · have e3 := decide_eq_true hx
        obtain ⟨q, rfl⟩ : ∃ q : Nat, b = q := ⟨b.toNat, by omega⟩
        have hq8 : q < 8 := by omega
        have hq1 : (q : Int) < d.blk.length := by rw [HB8.out.1]; omega
        have hq2 : (q : Int) < d.busy.length := by rw [HB8.out.2]; omega
        have hq0 : (0 : Int) ≤ q := by omega
        have cb := HC2.out W0 HU0.out.fr q (by rw [HB8.out.2]; exact hq8)
        refine useC (r2in_is t 0 19 true _ e1) ?_
        rintro e W0 ⟨rfl, rfl⟩
        go_wp2_with (first
          | (go_at_call 17; (with_reducible refine useC (r2in_is q 0 7 true _ e2) ?_); rintro e W0 ⟨rfl, rfl⟩)
          | (go_at_call 17; (with_reducible refine useC (r2in_is x 0 1000 true _ e3) ?_); rintro e W0 ⟨rfl, rfl⟩))
        have HU1 := Lib.hid (HU0.out.step ((Fr.refl [] W0).drew))
        by_cases hcl : Un.clash d t q
        · have HE : Hid (Un.wrErr d t q x = 6) := by show _ = _; unfold Un.wrErr; rw [if_pos ht, if_pos ⟨hb, hx⟩, if_pos hcl]
          have HR := Lib.hid (HERR.out 6 HE.out (by decide))
          unfold Un.clash at hcl
          rw [Int.toNat_natCast] at hcl
          obtain ⟨hy0, hyt⟩ := hcl
          have hyb : (nth d.busy q == t) = false := by simpa using hyt
          clear hyt ht hb hx
          generalize nth d.busy q = y at *
          (refine wp_region_mixq 16 [(true, 0), (true, 1), (true, 2), (true, 3), (true, 4), (true, 5), (true, 6), (true, 7), (true, 8), (true, 9), (true, 10), (true, 11), (true, 12), (true, 13), (true, 14), (true, 15)] (by kernel_rfl) (by kernel_rfl) ?_; simp only [pickOps, List.map_cons, List.map_nil, List.getD_cons_zero, List.getD_cons_succ, List.drop_succ_cons, List.drop_zero]; (iterate 16 (first | (refine wpMix_take (v := ?_) (by rfl) ?_ ?_; rotate_left; (focus (intro W hW; subst hW; go_simp; (try with_reducible rfl); done)); try simp only [Act.put, List.setIfInBounds_toArray, List.set_cons_zero, List.set_cons_succ]) | (refine wpMix_leave (by rfl) ?_; try simp only [Act.put, List.setIfInBounds_toArray, List.set_cons_zero, List.set_cons_succ]))); refine wpMix_nil ?_)
          go_wp2
          rw [HE.out, HR.out]
          exact bodyPost_ret (v := .tuple #[.agg #[.slice (some ⟨g1, o1, none⟩) d.blk.length c1, .slice (some ⟨g2, o2, none⟩) d.busy.length c2, .slice A3 d.was.length c3], .int .i64 6]) (ux_results Tryd.results9 rfl rfl (UxW.fin HU1.out).1) rfl ((UxW.fin HU1.out).2 _)
        · have hcl2 := hcl
          unfold Un.clash at hcl2
          rw [Int.toNat_natCast] at hcl2
          have hor : (0 ≤ nth d.busy q ∧ (nth d.busy q == t) = true) ∨ ¬ 0 ≤ nth d.busy q := by
            by_cases hy : 0 ≤ nth d.busy q
            · exact .inl ⟨hy, beq_iff_eq.2 (Classical.byContradiction fun h => hcl2 ⟨hy, h⟩)⟩
            · exact .inr hy
          by_cases hn : d.was.length = 60
          · have HE : Hid (Un.wrErr d t q x = 4) := by show _ = _; unfold Un.wrErr; rw [if_pos ht, if_pos ⟨hb, hx⟩, if_neg hcl, if_pos hn]
            have HR := Lib.hid (HERR.out 4 HE.out (by decide))
            have hnI : (60 : Int) ≤ d.was.length := by omega
            clear hcl hcl2 ht hb hx hn
            generalize nth d.busy q = y at *
            rcases hor with ⟨hy, hyt⟩ | hy
            all_goals
              (refine wp_region_mixq 16 [(true, 0), (true, 1), (true, 2), (true, 3), (true, 4), (true, 5), (true, 6), (true, 7), (true, 8), (true, 9), (true, 10), (true, 11), (true, 12), (true, 13), (true, 14), (true, 15)] (by kernel_rfl) (by kernel_rfl) ?_; simp only [pickOps, List.map_cons, List.map_nil, List.getD_cons_zero, List.getD_cons_succ, List.drop_succ_cons, List.drop_zero]; (iterate 16 (first | (refine wpMix_take (v := ?_) (by rfl) ?_ ?_; rotate_left; (focus (intro W hW; subst hW; go_simp; (try with_reducible rfl); done)); try simp only [Act.put, List.setIfInBounds_toArray, List.set_cons_zero, List.set_cons_succ]) | (refine wpMix_leave (by rfl) ?_; try simp only [Act.put, List.setIfInBounds_toArray, List.set_cons_zero, List.set_cons_succ]))); refine wpMix_nil ?_)
              go_wp2
              rw [HE.out, HR.out]
              exact bodyPost_ret (v := .tuple #[.agg #[.slice (some ⟨g1, o1, none⟩) d.blk.length c1, .slice (some ⟨g2, o2, none⟩) d.busy.length c2, .slice A3 d.was.length c3], .int .i64 4]) (ux_results Tryd.results9 rfl rfl (UxW.fin HU1.out).1) rfl ((UxW.fin HU1.out).2 _)
          · have hz : Un.wrErr d t q x = 0 := by unfold Un.wrErr; rw [if_pos ht, if_pos ⟨hb, hx⟩, if_neg hcl, if_neg hn]
            have HE := Lib.hid hz
            have HR : Hid (Un.write d t q x = ⟨d.blk.set q x, d.was ++ [⟨t, q, nth d.blk q⟩], d.busy.set q t⟩) := by
              show _ = _
              unfold Un.write
              rw [if_pos hz, Int.toNat_natCast]; rfl
            have hnI : (d.was.length : Int) < 60 := by omega
            have hn60 : d.was.length < 60 := by omega
            have HBQ := Lib.hid (fun W (hW : Fr [] w W) => HC1.out W hW q (by rw [HB8.out.1]; exact hq8))
            have HP1 : Hid (W0.drew.heap[X1]? = _) := ((Fr.refl [] W0).drew).get HP0.out (by simp)
            have hs0 : W0.drew.heap.size = W0.heap.size := rfl
            have hn1 : d.blk.set q x ≠ [] := fun e => by
              have := congrArg List.length e
              rw [List.length_set, HB8.out.1] at this
              cases this
            have hn2 : d.busy.set q t ≠ [] := fun e => by
              have := congrArg List.length e
              rw [List.length_set, HB8.out.2] at this
              cases this
            have HN := Lib.hid (And.intro hn1 hn2)
            have HSA := Lib.hid (fun W v g (hs : Sl W v g d.blk) => set_any W v g d.blk q x hs (by rw [HB8.out.1]; exact hq8) (by rw [HB8.out.1]; decide))
            have HSC := Lib.hid (fun W v g (hs : Sl W v g d.busy) => set_any W v g d.busy q t hs (by rw [HB8.out.2]; exact hq8) (by rw [HB8.out.2]; decide))
            clear hcl hcl2 ht hb hx hn hz HERR hn1 hn2
            generalize hyy : nth d.busy q = y at cb hor
            clear hyy
            rcases hor with ⟨hy, hyt⟩ | hy
            all_goals
              (refine wp_region_mixq 16 [(true, 0), (true, 1), (true, 2), (true, 3), (true, 4), (true, 5), (true, 6), (true, 7), (true, 8), (true, 9), (true, 10), (true, 11), (true, 12), (true, 13), (true, 14), (true, 15)] (by kernel_rfl) (by kernel_rfl) ?_; simp only [pickOps, List.map_cons, List.map_nil, List.getD_cons_zero, List.getD_cons_succ, List.drop_succ_cons, List.drop_zero]; (iterate 16 (first | (refine wpMix_take (v := ?_) (by rfl) ?_ ?_; rotate_left; (focus (intro W hW; subst hW; go_simp; (try with_reducible rfl); done)); try simp only [Act.put, List.setIfInBounds_toArray, List.set_cons_zero, List.set_cons_succ]) | (refine wpMix_leave (by rfl) ?_; try simp only [Act.put, List.setIfInBounds_toArray, List.set_cons_zero, List.set_cons_succ]))); refine wpMix_nil ?_)
              go_wp2_with (at_builtin; refine wpList_spread_enc (E := enP) Tryd.underlying26 Tryd.info_put rfl (by decide) rfl _ _ rfl W0.drew.heap.size _ _ [] d.was g3 rfl OwnR.nil rfl (HLR.out W0.drew HU1.out.fr) (by simp; omega) (Nat.le_refl _) ?_; intro v3 w3 h1 _ hb3; rw [List.nil_append] at h1; have H3 := Lib.hid h1; obtain ⟨A4, c4, rfl⟩ := h1.form0; have HB3 := Lib.hid hb3; have HU3 := Lib.hid (HU1.out.step (Fr.of_below hb3)); have HP3 := Lib.hid ((Fr.of_below hb3).get HP1.out (by simp)); clear h1 hb3 p0 p1 p2 b0 b1 b2 hfx o0 o1' o2' hfo)
              have HBL := Lib.hid (HBQ.out w3 HU3.out.fr)
              (refine wp_region_mix (Fr [] w3 ·) 13 [(true, 0), (true, 1), (true, 2), (true, 3), (true, 4), (true, 5), (true, 6), (true, 7), (true, 8), (true, 9), (true, 10), (true, 11), (false, 12)] (by kernel_rfl) (by kernel_rfl) ((Fr.refl _ _).drew) ?_; simp only [pickOps, List.map_cons, List.map_nil, List.getD_cons_zero, List.getD_cons_succ, List.drop_succ_cons, List.drop_zero])
              (iterate 12 (first | (refine wpMix_take (v := ?_) (by rfl) ?_ ?_; rotate_left; (focus (intro W hW; obtain ⟨⟨b0, b1, b2⟩, -⟩ := (HU3.out.step hW).cells; obtain ⟨p0, p1, p2⟩ := ux_put (hW.get HP3.out (by simp)); have cq := hW.cell HBL.out (by simp); go_simp; (try with_reducible rfl); done)); try simp only [Act.put, List.setIfInBounds_toArray, List.set_cons_zero, List.set_cons_succ]) | (refine wpMix_leave (by rfl) ?_; try simp only [Act.put, List.setIfInBounds_toArray, List.set_cons_zero, List.set_cons_succ])))
              refine wpMix_walk ?_
              go_wp2
              refine MixQ.mk ((((Fr.refl _ w3).drew).alloc _)) ?_
              refine wpMix_nil ?_
              have HO3 : Hid (OwnR enP w3.drew W0.drew.heap.size 36 (.slice A4 d.was.length c4) d.was) := H3.out.kept ((Fr.refl [] w3).drew) (by simp)
              have hs3 : W0.drew.heap.size ≤ w3.drew.heap.size := HB3.out.size
              obtain ⟨hxl, hxl2⟩ := HU0.out.lt
              have hx1l := lt_of_heap HP0.out
              have hpg := HU1.out.fr.size
              have HLT := Lib.hid (And.intro hpg (And.intro hxl hxl2))
              clear hxl hxl2 hx1l hpg
              go_wp2_with (first
                | (at_builtin; refine wpList_push_enc (E := enP) (y := ⟨t, q, nth d.blk q⟩) (wr := w3.drew) Tryd.underlying26 Tryd.info_put rfl (by decide) rfl _ _ rfl W0.drew.heap.size _ d.was rfl rfl HO3.out rfl (by omega) hs3 ?_; intro v4 w4 h1 _ hb4; obtain ⟨A5, c5, hv4⟩ := h1.form0; rw [List.length_append, List.length_singleton] at hv4; subst hv4; have hf4 : Fr [] W0.drew w4 := ((Fr.of_below HB3.out).drew).below_step hb4 (Nat.le_refl _); have HU4 := Lib.hid (HU1.out.step hf4); obtain ⟨w5, hw5⟩ : ∃ z, z = w4.setCell ⟨X, 2, none⟩ (.slice A5 (d.was.length + 1) c5) := ⟨_, rfl⟩; have HU5 := Lib.hid (HU4.out.setL h1 ⟨HLT.out.1, HLT.out.2.1, HLT.out.2.2⟩); have HP5 := Lib.hid ((UxW.one w4 X 2 (.slice A5 (d.was.length + 1) c5)).get (hf4.get HP1.out (by simp)) (by simpa using HNE.out.1.symm)); rw [← hw5] at HU5 HP5; have HW5 := Lib.hid hw5; clear hw5 hf4 h1 hb4; obtain ⟨⟨b0, b1, b2⟩, hfx⟩ := HU4.out.cells)
                | (rw [← HW5.out]; clear HW5 b0 b1 b2 hfx; obtain ⟨p0, p1, p2⟩ := ux_put HP5.out; obtain ⟨⟨b0, b1, b2⟩, hfx⟩ := HU5.out.cells)
                | (have h' := HU5; clear h'; go_at_call 18; obtain ⟨ga, -, hsa⟩ := HU5.out.ra; have hsa : Sl w5 _ ga d.blk := hsa; (with_reducible refine useC (HSA.out w5 _ ga hsa) ?_); rintro e w6 hn; obtain ⟨A6, c6, he, hu6, hf6, hr6⟩ := HU5.out.row hn HN.out.1; rw [List.length_set] at he hr6; subst he; obtain ⟨w7, hw7⟩ : ∃ z, z = w6.setCell ⟨X, 0, none⟩ (.slice A6 d.blk.length c6) := ⟨_, rfl⟩; have HU6 := Lib.hid hu6; have HU7 := Lib.hid (hu6.setA hr6); have HP7 := Lib.hid ((UxW.one w6 X 0 (.slice A6 d.blk.length c6)).get (hf6.get HP5.out (by simp)) (by simpa using HNE.out.1.symm)); rw [← hw7] at HU7 HP7; have HW7 := Lib.hid hw7; clear hw7 hf6 hr6 hu6 hn hsa b0 b1 b2 hfx p0 p1 p2 HU5; obtain ⟨⟨b0, b1, b2⟩, hfx⟩ := HU6.out.cells)
                | (rw [← HW7.out]; clear HW7 b0 b1 b2 hfx; obtain ⟨p0, p1, p2⟩ := ux_put HP7.out; obtain ⟨⟨b0, b1, b2⟩, hfx⟩ := HU7.out.cells)
                | (have h' := HU7; clear h'; go_at_call 18; obtain ⟨ga, -, hsa⟩ := HU7.out.rc; have hsa : Sl w7 _ ga d.busy := hsa; (with_reducible refine useC (HSC.out w7 _ ga hsa) ?_); rintro e w8 hn; obtain ⟨A8, c8, he, hu8, hf8, hr8⟩ := HU7.out.row hn HN.out.2; rw [List.length_set] at he hr8; subst he; obtain ⟨w9, hw9⟩ : ∃ z, z = w8.setCell ⟨X, 1, none⟩ (.slice A8 d.busy.length c8) := ⟨_, rfl⟩; have HU8 := Lib.hid hu8; have HU9 := Lib.hid (hu8.setC hr8); rw [← hw9] at HU9; have HW9 := Lib.hid hw9; clear hw9 hf8 hr8 hu8 hn hsa b0 b1 b2 hfx p0 p1 p2 HU7; obtain ⟨⟨b0, b1, b2⟩, hfx⟩ := HU8.out.cells)
                | (rw [← HW9.out]; clear HW9 b0 b1 b2 hfx; obtain ⟨⟨b0, b1, b2⟩, hfx⟩ := HU9.out.cells; obtain ⟨o0, o1', o2'⟩ := UxX.cells HU9.out.out; have hfo := fun i => free_block HU9.out.out i none))
              rw [HE.out, HR.out]
              exact bodyPost_ret (v := .tuple #[.agg #[.slice A6 d.blk.length c6, .slice A8 d.busy.length c8, .slice A5 (d.was.length + 1) c5], .int .i64 0]) (ux_results Tryd.results9 rfl rfl (UxW.fin HU9.out).1) rfl ((UxW.fin HU9.out).2 _)
      · have e3 := decide_eq_false hx
        have HE : Hid (Un.wrErr d t b x = 1) := by show _ = _; unfold Un.wrErr; rw [if_pos ht, if_neg (fun h => hx h.2)]
        have HR := Lib.hid (HERR.out 1 HE.out (by decide))
        refine useC (r2in_is t 0 19 true _ e1) ?_
        rintro e W0 ⟨rfl, rfl⟩
        go_wp2_with (first
          | (go_at_call 17; (with_reducible refine useC (r2in_is b 0 7 true _ e2) ?_); rintro e W0 ⟨rfl, rfl⟩)
          | (go_at_call 17; (with_reducible refine useC (r2in_is x 0 1000 false _ e3) ?_); rintro e W0 ⟨rfl, rfl⟩))
        rw [HE.out, HR.out]
        exact bodyPost_ret (v := .tuple #[.agg #[.slice (some ⟨g1, o1, none⟩) d.blk.length c1, .slice (some ⟨g2, o2, none⟩) d.busy.length c2, .slice A3 d.was.length c3], .int .i64 1]) (ux_results Tryd.results9 rfl rfl (UxW.fin HU0.out).1) rfl ((UxW.fin HU0.out).2 _)
    · have e2 := decide_eq_false hb
      have HE : Hid (Un.wrErr d t b x = 1) := by show _ = _; unfold Un.wrErr; rw [if_pos ht, if_neg (fun h => hb h.1)]
      have HR := Lib.hid (HERR.out 1 HE.out (by decide))
      refine useC (r2in_is t 0 19 true _ e1) ?_
      rintro e W0 ⟨rfl, rfl⟩
      go_wp2_with (go_at_call 17; (with_reducible refine useC (r2in_is b 0 7 false _ e2) ?_); rintro e W0 ⟨rfl, rfl⟩)
      rw [HE.out, HR.out]
      exact bodyPost_ret (v := .tuple #[.agg #[.slice (some ⟨g1, o1, none⟩) d.blk.length c1, .slice (some ⟨g2, o2, none⟩) d.busy.length c2, .slice A3 d.was.length c3], .int .i64 1]) (ux_results Tryd.results9 rfl rfl (UxW.fin HU0.out).1) rfl ((UxW.fin HU0.out).2 _)
  · have e1 : decide (0 ≤ t ∧ t ≤ 19) = false := decide_eq_false ht
    have HE : Hid (Un.wrErr d t b x = 1) := by show _ = _; unfold Un.wrErr; rw [if_neg ht]
    have HR := Lib.hid (HERR.out 1 HE.out (by decide))
    refine useC (r2in_is t 0 19 false _ e1) ?_
    rintro e W0 ⟨rfl, rfl⟩
    go_wp2
    rw [HE.out, HR.out]
    exact bodyPost_ret (v := .tuple #[.agg #[.slice (some ⟨g1, o1, none⟩) d.blk.length c1, .slice (some ⟨g2, o2, none⟩) d.busy.length c2, .slice A3 d.was.length c3], .int .i64 1]) (ux_results Tryd.results9 rfl rfl (UxW.fin HU0.out).1) rfl ((UxW.fin HU0.out).2 _)
end Go.Proofs.YtmhmbgkpojgbbabDoor
